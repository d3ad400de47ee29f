/- The document's 'goOn': what it answers, and small facts on memory. Conditions: none. -/
import Derived.Test.YtapofohbngkekaaPnJ
import Derived.Test.YtapofohbngkekaaPnB
import Derived.Deep.CutRange
set_option maxRecDepth 100000
namespace Go.Proofs.Ytapofohbngkekaa
open Go.ChangeShapes Go.WideShapes Go.ChangeAt Go.RowKit
/-- What 'goOn' answers; M: where the state that came in lies. -/
def GoP (s : ST) (M : Nat → Prop) (w : World) (e : Ending) (w' : World) : Prop :=
  ∃ (r : ST) (ts : List TL) (fv pv tv : Value), GoR s r ts ∧ e = .returned (.tuple #[stV fv pv r, tv]) ∧ STm w' (fun b => M b ∨ (w.heap.size ≤ b ∧ b < w'.heap.size)) fv pv r ∧ TLm w' (fun b => w.heap.size ≤ b ∧ b < w'.heap.size) tv ts ∧ Below w.heap.size w w'
theorem FrM.r {w : World} {M : Nat → Prop} {B : Nat} {A : Option Addr} {l : List FR} {ds : List Value} (h : FrM w M A l ds) (hM : ∀ b, M b → b < B) : FrR w B A l ds :=
  ⟨h.row.rd hM, h.len, fun i f d hf hd => by obtain ⟨D, c, e, q1, q2, hr⟩ := h.dr i f d hf hd; exact ⟨D, c, e, q1, q2, hr.rd hM⟩⟩
/-- A state's box. -/
def SB (W : World) (X : Nat) (fv pv : Value) (s : ST) : Prop := W.heap[X]? = some (.cells #[fv, pv, .int .i64 (s.next : Int), .int .i64 (s.ser : Int), .int .i64 s.en, .int .i64 s.st] 56 (0, 0))
section
variable {W : World} {X : Nat} {fv pv : Value} {s : ST}
theorem SB.c0 (h : SB W X fv pv s) : W.cell? ⟨X, 0, none⟩ = some fv := by rw [Lib.cell_of_heap h]; rfl
theorem SB.c1 (h : SB W X fv pv s) : W.cell? ⟨X, 1, none⟩ = some pv := by rw [Lib.cell_of_heap h]; rfl
theorem SB.c2 (h : SB W X fv pv s) : W.cell? ⟨X, 2, none⟩ = some (.int .i64 (s.next : Int)) := by rw [Lib.cell_of_heap h]; rfl
theorem SB.c3 (h : SB W X fv pv s) : W.cell? ⟨X, 3, none⟩ = some (.int .i64 (s.ser : Int)) := by rw [Lib.cell_of_heap h]; rfl
theorem SB.c4 (h : SB W X fv pv s) : W.cell? ⟨X, 4, none⟩ = some (.int .i64 s.en) := by rw [Lib.cell_of_heap h]; rfl
theorem SB.c5 (h : SB W X fv pv s) : W.cell? ⟨X, 5, none⟩ = some (.int .i64 s.st) := by rw [Lib.cell_of_heap h]; rfl
theorem SB.z (h : SB W X fv pv s) (j : Nat) : W.frozen? ⟨X, j, none⟩ = false := Lib.frozen_of_heap h j
theorem SB.to {W' : World} (h : SB W X fv pv s) (hk : W'.heap[X]? = W.heap[X]?) : SB W' X fv pv s := hk.trans h
theorem SB.lt (h : SB W X fv pv s) : X < W.heap.size := (Array.getElem?_eq_some_iff.1 h).1
end
/-- The empty state of an answer's box. -/
def zeroST : ST := ⟨[], [], 0, 0, 0, 0⟩
/-- The last activation of a state that is read, in memory. -/
theorem STr.top {w : World} {B nf fc np pc : Nat} {FA PA : Option Addr} {s : ST} {fs : List FR} {f : FR} (h : STr w B (.slice FA nf fc) (.slice PA np pc) s) (hf : s.fr = fs ++ [f]) :
    ∃ b off D dc, FA = some ⟨b, off, none⟩ ∧ b < B ∧ nf = fs.length + 1 ∧ w.cell? ⟨b, off + fs.length * 5, none⟩ = some (.int .i64 f.id) ∧ w.cell? ⟨b, off + fs.length * 5 + 1, none⟩ = some (.int .i64 f.mark) ∧ w.cell? ⟨b, off + fs.length * 5 + 2, none⟩ = some (.int .i64 f.pan) ∧ w.cell? ⟨b, off + fs.length * 5 + 3, none⟩ = some (.int .i64 f.ph) ∧ w.cell? ⟨b, off + fs.length * 5 + 4, none⟩ = some (.slice D f.ds.length dc) ∧
      f.ds.length ≤ dc ∧ dc ≤ maxLen ∧ Rd w B 1 D f.ds.length (f.ds.map (Value.int .i64)) ∧ nf ≤ fc ∧ fc ≤ maxLen := by
  obtain ⟨⟨A, c, ds, e, h1, h2, hfr⟩, _⟩ := h
  injection e with e1 e2 e3
  subst e1 e2 e3
  have hl : s.fr.length = fs.length + 1 := by rw [hf]; simp
  have hi : s.fr[fs.length]? = some f := by rw [hf]; simp
  obtain ⟨d, hd⟩ := hfr.form hi
  obtain ⟨D, dc, rfl, h3, h4, hr⟩ := hfr.dr _ f _ hi hd
  obtain ⟨b, off, rfl, hb, hcell⟩ := hfr.row.2 (by omega)
  have hcc : ∀ j, j < 5 → w.cell? ⟨b, off + fs.length * 5 + j, none⟩ = (frC f (.slice D f.ds.length dc))[j]? := fun j hj => by
    have h5 : (frL s.fr ds)[fs.length * 5 + j]? = (frC f (.slice D f.ds.length dc))[j]? := frL_get hi hd hj
    have hj2 : j < (frC f (.slice D f.ds.length dc)).length := hj
    rw [List.getElem?_eq_getElem hj2] at h5 ⊢
    have := hcell (fs.length * 5 + j) _ h5
    rwa [← Nat.add_assoc] at this
  exact ⟨b, off, D, dc, rfl, hb, hl, hcc 0 (by omega), hcc 1 (by omega), hcc 2 (by omega), hcc 3 (by omega), hcc 4 (by omega), h3, h4, hr, h1, h2⟩
theorem STr.lastP {w : World} {B np pc : Nat} {fv : Value} {PA : Option Addr} {s : ST} {q : List PN} {p : PN} (h : STr w B fv (.slice PA np pc) s) (hp : s.pn = q ++ [p]) :
    ∃ b off, PA = some ⟨b, off, none⟩ ∧ b < B ∧ np = q.length + 1 ∧ w.cell? ⟨b, off + q.length * 7, none⟩ = some (.int .i64 p.ser) ∧ w.cell? ⟨b, off + q.length * 7 + 5, none⟩ = some (.bool p.rcv) ∧ np ≤ pc := by
  obtain ⟨_, ⟨A, c, e, h1, h2, hr⟩⟩ := h
  injection e with e1 e2 e3
  subst e1 e2 e3
  have hl : s.pn.length = q.length + 1 := by rw [hp]; simp
  obtain ⟨b, off, rfl, hb, hcell⟩ := hr.2 (by omega)
  have hi : s.pn[q.length]? = some p := by rw [hp]; simp
  have h5 := hcell (q.length * 7 + 0) (.int .i64 p.ser) (by rw [pnL_get hi (by omega)]; rfl)
  have h6 := hcell (q.length * 7 + 5) (.bool p.rcv) (by rw [pnL_get hi (by omega)]; rfl)
  rw [← Nat.add_assoc] at h5 h6
  exact ⟨b, off, rfl, hb, hl, h5, h6, h1⟩
def pre3 (w : World) (fv pv : Value) (s : ST) (l : List Value) : World := ((w.alloc (.cells #[fv, pv, .int .i64 (s.next : Int), .int .i64 (s.ser : Int), .int .i64 s.en, .int .i64 s.st] 56)).alloc (.cells #[.slice none 0 0, .slice none 0 0, .int .i64 0, .int .i64 0, .int .i64 0, .int .i64 0] 56)).alloc (.cells l.toArray 93)
theorem boxes3 (w : World) (fv pv : Value) (s : ST) (l : List Value) : SB (pre3 w fv pv s l) w.heap.size fv pv s ∧ SB (pre3 w fv pv s l) (w.heap.size + 1) (.slice none 0 0) (.slice none 0 0) zeroST ∧ (pre3 w fv pv s l).heap[w.heap.size + 2]? = some (.cells l.toArray 93 (0, 0)) ∧ Below w.heap.size w (pre3 w fv pv s l) ∧ (pre3 w fv pv s l).heap.size = w.heap.size + 3 := by
  unfold pre3
  refine ⟨?_, ?_, heap_atN _ (by simp), sq (sq (al _) (al _)) (al _), by simp⟩
  · unfold SB
    rw [Lib.alloc_old _ _ _ (by simp; omega), Lib.alloc_old _ _ _ (by simp)]
    exact heap_alloc_new w _
  · unfold SB
    rw [Lib.alloc_old _ _ _ (by simp)]
    exact heap_atN _ (by simp)
end Go.Proofs.Ytapofohbngkekaa
