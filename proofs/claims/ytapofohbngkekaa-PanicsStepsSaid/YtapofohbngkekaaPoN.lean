/- Events, as data: what comes in. Conditions: none. -/
import Derived.Test.YtapofohbngkekaaUp
import Derived.Test.YtapofohbngkekaaPoM
set_option maxRecDepth 100000
namespace Go.Proofs.Ytapofohbngkekaa
open Go.ChangeShapes Go.WideShapes Go.ChangeAt Go.RowKit Go.Deep
structure EE where
  kind : Int
  n : Int
  v : VV
def EE.sh : Shp EE := (Shp.int.pair (Shp.int.pair VV.sh)).as fun p => (p.kind, p.n, p.v)
def EE.bulk (p : EE) : Nat := p.v.bulk
def EE.fits (p : EE) : Prop := p.v.fits
def toEV (e : EE) : EV := ⟨e.kind, e.n, e.v.k, e.v.n, e.v.s⟩
theorem EE.elim {w : World} {M : Nat → Prop} {cs : List Value} {p : EE} (h : EE.sh.rd w M cs p) :
    ∃ A c, cs = [.int .i64 p.kind, .int .i64 p.n, .int .i64 p.v.k, .int .i64 p.v.n, .string p.v.s, .slice A p.v.l.length c] ∧ VV.sh.rd w M [.int .i64 p.v.k, .int .i64 p.v.n, .string p.v.s, .slice A p.v.l.length c] p.v := by
  obtain ⟨_, _, rfl, ⟨rfl, hk⟩, _, _, rfl, ⟨rfl, hn⟩, hv⟩ := h
  obtain ⟨A, c, e, _⟩ := VV.elim hv
  subst e
  exact ⟨A, c, rfl, hv⟩
theorem EE.op : Op EE.sh Try.prog 51 EE.bulk EE.fits := by
  intro H enc w cs x h
  obtain ⟨hl, ys, hyl, hbk, hf⟩ := op_parts Try.underlying51 h
  match cs, hl, ys, hyl with
  | [c0, c1, c2, c3, c4, c5], _, [y0, y1, y2], _ =>
    obtain ⟨_, e0, h0⟩ := hf 0 _ rfl
    obtain ⟨_, e1, h1⟩ := hf 1 _ rfl
    obtain ⟨_, e2, h2⟩ := hf 2 _ rfl
    simp at e0 e1 e2
    subst e0 e1 e2
    obtain ⟨a, ha, _⟩ := op_int' Try.underlying3 h0
    obtain ⟨b, hb, _⟩ := op_int' Try.underlying3 h1
    obtain ⟨v, hv, hv1, hv2⟩ := VV.op h2
    refine ⟨⟨a, b, v⟩, ⟨[c0], [c1, c2, c3, c4, c5], rfl, ha, [c1], [c2, c3, c4, c5], rfl, hb, hv⟩, hv1, ?_⟩
    rw [hbk]
    simp only [List.map_cons, List.map_nil, Rows.uptoBulkAll, EE.bulk]
    have hv3 : v.bulk ≤ Rows.uptoBulk y2.1 := hv2
    omega
def IsEvts (w : World) (v : Value) : Prop := ∃ l : List EE, (Shp.slice EE.sh).rd w (· < w.heap.size) [v] l ∧ l.length * 72 ≤ 140737488351232 ∧ ∀ y ∈ l, EE.fits y
def IsEvt (w : World) (v : Value) : Prop := ∃ (x : EE) (A : Option Addr) (c : Nat), v = .agg #[.int .i64 x.kind, .int .i64 x.n, .int .i64 x.v.k, .int .i64 x.v.n, .string x.v.s, .slice A x.v.l.length c] ∧ EE.sh.rd w (· < w.heap.size) [.int .i64 x.kind, .int .i64 x.n, .int .i64 x.v.k, .int .i64 x.v.n, .string x.v.s, .slice A x.v.l.length c] x ∧ EE.fits x
section
variable {H : Type} {enc : TypeId × Value → H} {w : World}
theorem op_evts {base : Nat} {v : Value} {d : DataW H} {ps : List MemPlace} (hv : Value.okWide Try.prog w .any base 47 v) (h : DataW.Trod enc Try.prog w 0 (fun _ => true) true 47 v d ps) (hlt : ∀ x ∈ ps, x.block < w.heap.size) (hz : ∀ n ∈ d.weights Try.prog 47, n ≤ reachBytes) : IsEvts w v := by
  obtain ⟨A, len, cap, rfl⟩ := okWide_slice Try.underlying47 hv
  obtain ⟨l, h1, h2, _⟩ := op_slice' (S := EE.sh) (bytes := 72) Try.underlying47 (by kernel_rfl) (by kernel_rfl) (by show 0 < 6; omega) EE.op (Opens.of h hlt hz)
  exact ⟨l, h1, h2⟩
theorem op_evt {base : Nat} {v : Value} {d : DataW H} {ps : List MemPlace} (hv : Value.okWide Try.prog w .any base 51 v) (h : DataW.Trod enc Try.prog w 0 (fun _ => true) true 51 v d ps) (hlt : ∀ x ∈ ps, x.block < w.heap.size) (hz : ∀ n ∈ d.weights Try.prog 51, n ≤ reachBytes) : IsEvt w v := by
  obtain ⟨cs, rfl, _⟩ := okWide_struct Try.underlying51 hv
  obtain ⟨x, h1, h2, _⟩ := EE.op (Opens.of h hlt hz)
  obtain ⟨A, c, e, _⟩ := EE.elim h1
  obtain ⟨l⟩ := cs
  simp only [Value.cells] at e h1
  subst e
  exact ⟨x, A, c, rfl, h1, h2⟩
end
/-- Where the events of a slice lie. -/
theorem evs_at {w : World} {B n c : Nat} {A : Option Addr} {l : List EE} (h : (Shp.slice EE.sh).rd w (· < B) [.slice A n c] l) : n = l.length ∧ n ≤ c ∧ ∀ (i : Nat) (x : EE), l[i]? = some x → ∃ b off Ai ci, A = some ⟨b, off, none⟩ ∧ b < B ∧
    w.cell? ⟨b, off + i * 6, none⟩ = some (.int .i64 x.kind) ∧ w.cell? ⟨b, off + i * 6 + 1, none⟩ = some (.int .i64 x.n) ∧ w.cell? ⟨b, off + i * 6 + 2, none⟩ = some (.int .i64 x.v.k) ∧ w.cell? ⟨b, off + i * 6 + 3, none⟩ = some (.int .i64 x.v.n) ∧ w.cell? ⟨b, off + i * 6 + 4, none⟩ = some (.string x.v.s) ∧ w.cell? ⟨b, off + i * 6 + 5, none⟩ = some (.slice Ai x.v.l.length ci) ∧
    RdM w (· < B) 1 Ai x.v.l.length (x.v.l.map (Value.int .i64)) := by
  obtain ⟨A', c', ess, e, h1, _, _, hr, ha⟩ := h
  simp only [List.cons.injEq, and_true] at e
  injection e with e1 e2 e3
  subst e1 e2 e3
  refine ⟨rfl, h1, fun i x hx => ?_⟩
  have hi := (List.getElem?_eq_some_iff.1 hx).1
  obtain ⟨b, off, rfl, hb, hc⟩ := hr.2 (by omega)
  have hie : i < ess.length := by rw [ha.1]; exact hi
  have hee := List.getElem?_eq_getElem hie
  have hrd := ha.2 i _ x hee hx
  obtain ⟨Ai, ci, e, hv⟩ := EE.elim hrd
  obtain ⟨_, _, e', hri, _⟩ := VV.elim hv
  simp only [List.cons.injEq, and_true, true_and] at e'
  injection e' with e1' e2' e3'
  subst e1' e3'
  have hall : ∀ c ∈ ess, c.length = 6 := fun c hc => by
    obtain ⟨j, hj, rfl⟩ := List.mem_iff_getElem.1 hc
    obtain ⟨y, hy⟩ : ∃ y, l[j]? = some y := ⟨_, List.getElem?_eq_getElem (by rw [← ha.1]; exact hj)⟩
    exact EE.sh.len (ha.2 j _ y (List.getElem?_eq_getElem hj) hy)
  have hcell : ∀ j u, j < 6 → (ess[i])[j]? = some u → w.cell? ⟨b, off + (i * 6 + j), none⟩ = some u := fun j u hj hu => hc _ u (by rw [flat_at hall i j hj, hee]; exact hu)
  rw [e] at hcell
  refine ⟨b, off, Ai, ci, rfl, hb, hcell 0 _ (by omega) rfl, hcell 1 _ (by omega) rfl, hcell 2 _ (by omega) rfl, hcell 3 _ (by omega) rfl, hcell 4 _ (by omega) rfl, hcell 5 _ (by omega) rfl, hri⟩
theorem evs_of {w : World} {B n c : Nat} {A : Option Addr} {l : List EE} (h : (Shp.slice EE.sh).rd w (· < B) [.slice A n c] l) : EvsR w B A (l.map toEV) := by
  intro i v hv
  rw [List.getElem?_map] at hv
  cases hx : l[i]? with
  | none => rw [hx] at hv; cases hv
  | some x =>
    rw [hx] at hv
    injection hv with hv
    subst hv
    obtain ⟨b, off, Ai, ci, rfl, hb, c0, c1, c2, c3, c4, c5, _⟩ := (evs_at h).2.2 i x hx
    exact ⟨b, off, Ai, _, ci, rfl, hb, c0, c1, c2, c3, c4, c5⟩
end Go.Proofs.Ytapofohbngkekaa
