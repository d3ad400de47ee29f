/- Maps keyed by int: what a store and a look-up do to a map that is known whole. Conditions: none. -/
import Derived.Test.YtkpejdkffkhekaaGreatDoorBase
import Derived.Handy
import Derived.ChangeMaps4
import Derived.Maps.OwnOps
namespace Go.Proofs.YtkpejdkffkhekaaGreatDoor
open Go.ChangeShapes Go.WideShapes Go.ChangeAt Go.RowKit
open Go.ChangeMaps (setBlock)

def getM : List (Int × Value) → Int → Option Value
  | [], _ => none
  | (a, x) :: r, k => if a = k then some x else getM r k
def setM : List (Int × Value) → Int → Value → List (Int × Value)
  | [], k, v => [(k, v)]
  | (a, x) :: r, k, v => if a = k then (a, v) :: r else (a, x) :: setM r k v
def projE (es : List MapEntry) : List (Value × Value) := es.map fun e => (e.key, e.val)
def projL (l : List (Int × Value)) : List (Value × Value) := l.map fun p => (Value.int .i64 p.1, p.2)
/-- Block b is a map that holds just these, in the order in which they were put. -/
def MapIs (w : World) (b : Nat) (l : List (Int × Value)) : Prop := ∃ es clock, w.heap[b]? = some (.map es clock) ∧ projE es.toList = projL l

theorem findNow_none (q : IntKind) (k : Int) : ∀ (es : List MapEntry) (l : List (Int × Value)) (i : Nat), projE es = projL l → getM l k = none → Instr.findNow (.int q) (.int .i64 k) es i = some none
  | [], [], _, _, _ => rfl
  | [], _ :: _, _, h, _ => by simp [projE, projL] at h
  | _ :: _, [], _, h, _ => by simp [projE, projL] at h
  | e :: es, (a, x) :: l, i, h, hg => by
    simp only [projE, projL, List.map_cons, List.cons.injEq, Prod.mk.injEq] at h
    obtain ⟨⟨hk, _⟩, hr⟩ := h
    by_cases hak : a = k
    · simp [getM, hak] at hg
    · simp only [getM, hak, if_false] at hg
      have hka : (k == a) = false := by simp; exact fun e => hak e.symm
      simp only [Instr.findNow, hk, Instr.sameNow, if_true, hka]
      exact findNow_none q k es l (i + 1) hr hg
theorem findNow_some (q : IntKind) (k : Int) : ∀ (es : List MapEntry) (l : List (Int × Value)) (i : Nat) (v : Value), projE es = projL l → getM l k = some v →
    ∃ j, Instr.findNow (.int q) (.int .i64 k) es i = some (some (i + j, v)) ∧ (∃ e, es[j]? = some e ∧ e.key = .int .i64 k) ∧ ∀ u, projE (es.modify j fun e => { e with key := .int .i64 k, val := u }) = projL (setM l k u)
  | [], [], _, _, _, hg => by simp [getM] at hg
  | [], _ :: _, _, _, h, _ => by simp [projE, projL] at h
  | _ :: _, [], _, _, h, _ => by simp [projE, projL] at h
  | e :: es, (a, x) :: l, i, v, h, hg => by
    simp only [projE, projL, List.map_cons, List.cons.injEq, Prod.mk.injEq] at h
    obtain ⟨⟨hk, hv⟩, hr⟩ := h
    by_cases hak : a = k
    · subst hak
      simp only [getM, if_true, Option.some.injEq] at hg
      subst hg
      refine ⟨0, by simp [Instr.findNow, hk, Instr.sameNow, hv], ⟨e, rfl, hk⟩, fun u => ?_⟩
      simp [projE, projL, setM]
      exact hr
    · simp only [getM, hak, if_false] at hg
      obtain ⟨j, h1, ⟨e', h2, h3⟩, h4⟩ := findNow_some q k es l (i + 1) v hr hg
      have hka : (k == a) = false := by simp; exact fun e => hak e.symm
      refine ⟨j + 1, ?_, ⟨e', by simpa using h2, h3⟩, fun u => ?_⟩
      · simp only [Instr.findNow, hk, Instr.sameNow, if_true, hka]
        rw [h1]
        congr 3
        omega
      · have := h4 u
        simp only [projE, projL] at this
        simp [projE, projL, setM, hak, hk, hv, List.modify_succ_cons, this]
theorem getM_setM_none {l : List (Int × Value)} {k : Int} {v : Value} (h : getM l k = none) : setM l k v = l ++ [(k, v)] := by
  induction l with
  | nil => rfl
  | cons p l ih =>
    obtain ⟨a, x⟩ := p
    by_cases hak : a = k
    · simp [getM, hak] at h
    · simp only [getM, hak, if_false] at h
      simp [setM, hak, ih h]

section
variable {P : Program} {w : World} {b : Nat} {l : List (Int × Value)} {t kt e : TypeId} {q : IntKind}
theorem check_int (hk : P.underlying kt = some (.int q)) (c : Bool) (k : Int) : (Instr.checkKey c 10000 kt (.int .i64 k)).run P w = .ok () w := by
  show (Instr.checkKey c (9999 + 1) kt (.int .i64 k)).run P w = _
  unfold Instr.checkKey
  simp [run_underlying hk]
theorem MapIs.lookup_ok (h : MapIs w b l) (ht : P.underlying t = some (.map kt e)) (hk : P.underlying kt = some (.int q)) {k : Int} {v : Value} (hg : getM l k = some v) :
    (Instr.lookup t (.map (some b)) (.int .i64 k) true).run P w = .ok (.tuple #[v, .bool true]) w := by
  obtain ⟨es, clock, hb, hp⟩ := h
  obtain ⟨j, hj, _⟩ := findNow_some q k es.toList l 0 v hp hg
  simp [Instr.lookup, run_underlying ht, MapKept.run_getObj_map hb, check_int hk, Instr.findKey, run_underlying hk, hj, Result.andThen]
theorem MapIs.lookup_no (h : MapIs w b l) (ht : P.underlying t = some (.map kt e)) (hk : P.underlying kt = some (.int q)) {k : Int} {z : Value} (hz : (zeroValue e).run P w = .ok z w) (hg : getM l k = none) :
    (Instr.lookup t (.map (some b)) (.int .i64 k) true).run P w = .ok (.tuple #[z, .bool false]) w := by
  obtain ⟨es, clock, hb, hp⟩ := h
  have hj := findNow_none q k es.toList l 0 hp hg
  simp [Instr.lookup, run_underlying ht, MapKept.run_getObj_map hb, check_int hk, Instr.findKey, run_underlying hk, hj, hz, Result.andThen]
theorem MapIs.lookup1_ok (h : MapIs w b l) (ht : P.underlying t = some (.map kt e)) (hk : P.underlying kt = some (.int q)) {k : Int} {v : Value} (hg : getM l k = some v) :
    (Instr.lookup t (.map (some b)) (.int .i64 k) false).run P w = .ok v w := by
  obtain ⟨es, clock, hb, hp⟩ := h
  obtain ⟨j, hj, _⟩ := findNow_some q k es.toList l 0 v hp hg
  simp [Instr.lookup, run_underlying ht, MapKept.run_getObj_map hb, check_int hk, Instr.findKey, run_underlying hk, hj, Result.andThen]
theorem MapIs.lookup1_no (h : MapIs w b l) (ht : P.underlying t = some (.map kt e)) (hk : P.underlying kt = some (.int q)) {k : Int} {z : Value} (hz : (zeroValue e).run P w = .ok z w) (hg : getM l k = none) :
    (Instr.lookup t (.map (some b)) (.int .i64 k) false).run P w = .ok z w := by
  obtain ⟨es, clock, hb, hp⟩ := h
  have hj := findNow_none q k es.toList l 0 hp hg
  simp [Instr.lookup, run_underlying ht, MapKept.run_getObj_map hb, check_int hk, Instr.findKey, run_underlying hk, hj, hz, Result.andThen]
theorem MapIs.insert (h : MapIs w b l) (ht : P.underlying t = some (.map kt e)) (hk : P.underlying kt = some (.int q)) (k : Int) (v : Value) :
    ∃ w', (Instr.mapUpdate t (.map (some b)) (.int .i64 k) v).run P w = .ok () w' ∧ MapIs w' b (setM l k v) ∧ w.grownBy w' (some b) := by
  obtain ⟨es, clock, hb, hp⟩ := h
  have hlt : b < w.heap.size := (Array.getElem?_eq_some_iff.1 hb).1
  have grown : ∀ o, w.grownBy (setBlock w b o) (some b) := fun o => ⟨rfl, rfl, rfl, by simp [setBlock], fun i hi hne => by
    simp only [setBlock, Array.getElem?_setIfInBounds]
    rw [if_neg (fun e => hne (by rw [e]))]⟩
  have newb : ∀ o, (setBlock w b o).heap[b]? = some o := fun o => by simp [setBlock, hlt]
  cases hg : getM l k with
  | none =>
    have hj := findNow_none q k es.toList l 0 hp hg
    refine ⟨setBlock w b (.map (es.push { key := .int .i64 k, val := v, born := clock }) (clock + 1)), ?_, ⟨_, _, newb _, ?_⟩, grown _⟩
    · simp [Instr.mapUpdate, run_underlying ht, MapKept.run_getObj_map hb, check_int hk, Instr.findKey, run_underlying hk, hj, MapKept.run_setObj_map _ hb, Result.andThen, setBlock]
    · rw [getM_setM_none hg]
      simp only [projE, projL] at hp ⊢
      simp [hp]
  | some u =>
    obtain ⟨j, hj, ⟨e', he', hek⟩, hm⟩ := findNow_some q k es.toList l 0 u hp hg
    refine ⟨setBlock w b (.map (es.modify j fun e => { e with key := .int .i64 k, val := v }) clock), ?_, ⟨_, _, newb _, ?_⟩, grown _⟩
    · have he2 : es[j]? = some e' := by simpa using he'
      simp [Instr.mapUpdate, run_underlying ht, MapKept.run_getObj_map hb, check_int hk, Instr.findKey, run_underlying hk, hj, he2, hek, Instr.keyThatStays, Instr.sameBits, MapKept.run_setObj_map _ hb, Result.andThen, setBlock]
    · rw [← hm v]
      simp
theorem MapIs.made (w : World) : MapIs (w.alloc (.map #[] 0)) w.heap.size [] := ⟨#[], 0, heap_alloc_new w _, rfl⟩
theorem MapIs.lt (h : MapIs w b l) : b < w.heap.size := by obtain ⟨_, _, hb, _⟩ := h; exact (Array.getElem?_eq_some_iff.1 hb).1
theorem MapIs.alloc (h : MapIs w b l) (o : Obj) : MapIs (w.alloc o) b l := by
  have hl := h.lt
  obtain ⟨es, c, hb, hp⟩ := h
  exact ⟨es, c, (Below.heap_alloc w o b hl).trans hb, hp⟩
theorem MapIs.grown {w' : World} {row : Option Nat} (h : MapIs w b l) (hg : w.grownBy w' row) (hne : some b ≠ row) : MapIs w' b l := by
  have hl := h.lt
  obtain ⟨es, c, hb, hp⟩ := h
  exact ⟨es, c, (hg.block b hl hne).trans hb, hp⟩
theorem MapIs.below {w' : World} {B : Nat} (h : MapIs w b l) (hb' : Below B w w') (hB : b < B) : MapIs w' b l := by
  obtain ⟨es, c, hb, hp⟩ := h
  exact ⟨es, c, (hb'.block b hB).trans hb, hp⟩
end

section
variable {P : Program} {w : World} {ops : Array Oper} {rest : List Oper} {o : Oper} {a : Act} {Q : Exit → Act → World → Prop}
theorem wpList_insert_i (hg : o.guard = none) (m x v : Operand) (t : TypeId) (hop : o.op = Op.insert t m x v) (kt e : TypeId) (q : IntKind) (ht : P.underlying t = some (.map kt e)) (hk : P.underlying kt = some (.int q))
    (b : Nat) (l : List (Int × Value)) (hm : a.eval m = .map (some b)) (h : MapIs w b l) (k : Int) (val : Value) (hx : a.eval x = .int .i64 k) (hv : a.eval v = val)
    (hK : ∀ w', MapIs w' b (setM l k val) → w.grownBy w' (some b) → wpList P ops Q rest (a.put o.dst undef) w') : wpList P ops Q (o :: rest) a w := by
  refine wpList_plain hg fun K' hK' => ?_
  obtain ⟨w', hrun, r1, r2⟩ := h.insert ht hk k val
  unfold Oper.wp
  simp [execOp, hop, hm, hx, hv, hrun, Result.andThen]
  exact hK' _ _ (hK w' r1 r2)
theorem wpList_update_i (hg : o.guard = none) (m x v : Operand) (t : TypeId) (hop : o.op = Op.mapUpdate t m x v) (kt e : TypeId) (q : IntKind) (ht : P.underlying t = some (.map kt e)) (hk : P.underlying kt = some (.int q))
    (b : Nat) (l : List (Int × Value)) (hm : a.eval m = .map (some b)) (h : MapIs w b l) (k : Int) (val : Value) (hx : a.eval x = .int .i64 k) (hv : a.eval v = val)
    (hK : ∀ w', MapIs w' b (setM l k val) → w.grownBy w' (some b) → wpList P ops Q rest (a.put o.dst undef) w') : wpList P ops Q (o :: rest) a w := by
  refine wpList_plain hg fun K' hK' => ?_
  obtain ⟨w', hrun, r1, r2⟩ := h.insert ht hk k val
  unfold Oper.wp
  simp [execOp, hop, hm, hx, hv, hrun, Result.andThen]
  exact hK' _ _ (hK w' r1 r2)
theorem wpList_lookup_i_ok (hg : o.guard = none) (m x : Operand) (t : TypeId) (hop : o.op = Op.lookup t m x true) (kt e : TypeId) (q : IntKind) (ht : P.underlying t = some (.map kt e)) (hk : P.underlying kt = some (.int q))
    (b : Nat) (l : List (Int × Value)) (hm : a.eval m = .map (some b)) (h : MapIs w b l) (k : Int) (v : Value) (hx : a.eval x = .int .i64 k) (hv : getM l k = some v)
    (hK : wpList P ops Q rest (a.put o.dst (.tuple #[v, .bool true])) w) : wpList P ops Q (o :: rest) a w := by
  refine wpList_plain hg fun K' hK' => ?_
  have hrun := h.lookup_ok ht hk hv
  unfold Oper.wp
  simp [execOp, hop, hm, hx, hrun, Result.andThen]
  exact hK' _ _ hK
theorem wpList_lookup_i_no (hg : o.guard = none) (m x : Operand) (t : TypeId) (hop : o.op = Op.lookup t m x true) (kt e : TypeId) (q : IntKind) (ht : P.underlying t = some (.map kt e)) (hk : P.underlying kt = some (.int q))
    (b : Nat) (l : List (Int × Value)) (hm : a.eval m = .map (some b)) (h : MapIs w b l) (k : Int) (z : Value) (hx : a.eval x = .int .i64 k) (hz : (zeroValue e).run P w = .ok z w) (hv : getM l k = none)
    (hK : wpList P ops Q rest (a.put o.dst (.tuple #[z, .bool false])) w) : wpList P ops Q (o :: rest) a w := by
  refine wpList_plain hg fun K' hK' => ?_
  have hrun := h.lookup_no ht hk hz hv
  unfold Oper.wp
  simp [execOp, hop, hm, hx, hrun, Result.andThen]
  exact hK' _ _ hK
end

/-- Another block than the map's, known whole. -/
def SlAt (w : World) (b g : Nat) (cs : Array Value) : Prop := g ≠ b ∧ ∃ t, w.heap[g]? = some (.cells cs t (0, 0))
section
variable {w w' : World} {b g : Nat} {cs : Array Value}
theorem SlAt.new (w : World) (b : Nat) (cs : Array Value) (t : TypeId) (hb : b < w.heap.size) : SlAt (w.alloc (.cells cs t)) b w.heap.size cs := ⟨by omega, t, heap_alloc_new w _⟩
theorem SlAt.alloc (h : SlAt w b g cs) (o : Obj) : SlAt (w.alloc o) b g cs := by
  obtain ⟨hne, t, hh⟩ := h
  exact ⟨hne, t, (Below.heap_alloc w o g (Array.getElem?_eq_some_iff.1 hh).1).trans hh⟩
theorem SlAt.grown (h : SlAt w b g cs) (hg : w.grownBy w' (some b)) : SlAt w' b g cs := by
  obtain ⟨hne, t, hh⟩ := h
  exact ⟨hne, t, (hg.block g (Array.getElem?_eq_some_iff.1 hh).1 (fun e => hne (by injection e))).trans hh⟩
theorem SlAt.cell (h : SlAt w b g cs) (j : Nat) : w.cell? ⟨g, j, none⟩ = cs[j]? := by
  obtain ⟨_, t, hh⟩ := h
  exact cell_of_row w g j cs t (0, 0) hh
theorem bstep {w wp wn : World} {o : Obj} {b : Nat} (h : Below w.heap.size w wp) (hg : (wp.alloc o).grownBy wn (some b)) (hb : w.heap.size ≤ b) : Below w.heap.size w wn :=
  (h.alloc h.size o).grown hg (by have := h.size; simp; omega) (fun k e => by injection e with e; omega)
theorem wpList_lookup_sl {P : Program} {w : World} {ops : Array Oper} {rest : List Oper} {o : Oper} {a : Act} {Q : Exit → Act → World → Prop} (hg : o.guard = none) (m x : Operand) (t : TypeId) (hop : o.op = Op.lookup t m x true) (kt e : TypeId) (q : IntKind) (ht : P.underlying t = some (.map kt e)) (hk : P.underlying kt = some (.int q))
    (b : Nat) (l : List (Int × Value)) (hm : a.eval m = .map (some b)) (h : MapIs w b l) (k : Int) (g n : Nat) (cs : Array Value) (hs : SlAt w b g cs) (hx : a.eval x = .int .i64 k) (hv : getM l k = some (.slice (some ⟨g, 0, none⟩) n n))
    (hK : SlAt w b g cs → wpList P ops Q rest (a.put o.dst (.tuple #[.slice (some ⟨g, 0, none⟩) n n, .bool true])) w) : wpList P ops Q (o :: rest) a w :=
  wpList_lookup_i_ok hg m x t hop kt e q ht hk b l hm h k _ hx hv (hK hs)
end
end Go.Proofs.YtkpejdkffkhekaaGreatDoor
