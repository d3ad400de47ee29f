/- The types' reader: a piece is gathered by the closure. Conditions: none. -/
import Derived.Test.YtmbljapjecclaabTyFun
import Derived.Test.YtmbljapjecclaabCut
import Derived.Deep.RegionLaw
set_option maxRecDepth 20000
namespace Go.Proofs.Ytmbljapjecclaab
open Go.ChangeShapes Go.WideShapes Go.ChangeAt Go.RowKit
/-- The pieces gathered so far, in the variable of block bl; their row lies from 'base' on. -/
def Acc (w : World) (base bl : Nat) (ps : List ByteArray) : Prop :=
  ∃ v, w.cell? ⟨bl, 0, none⟩ = some v ∧ w.frozen? ⟨bl, 0, none⟩ = false ∧ w.ownsRow base 9 1 v ps.length (ps.map Value.string)
/-- Below 'base' all is as it was, but for the blocks g and bl. -/
structure Ch (base g bl : Nat) (w w' : World) : Prop where
  os : w'.os = w.os
  tape : w'.tape = w.tape
  output : w'.output = w.output
  size : w.heap.size ≤ w'.heap.size
  block : ∀ k, k < base → k ≠ g → k ≠ bl → w'.heap[k]? = w.heap[k]?
theorem Ch.trans {base g bl : Nat} {a b c : World} (h : Ch base g bl a b) (k : Ch base g bl b c) : Ch base g bl a c :=
  ⟨k.os.trans h.os, k.tape.trans h.tape, k.output.trans h.output, Nat.le_trans h.size k.size, fun i hi h1 h2 => (k.block i hi h1 h2).trans (h.block i hi h1 h2)⟩
theorem Ch.refl (base g bl : Nat) (w : World) : Ch base g bl w w := ⟨rfl, rfl, rfl, Nat.le_refl _, fun _ _ _ _ => rfl⟩
theorem Ch.of_gb {base g bl : Nat} {a b : World} (h : a.grownBy b (some g)) (hb : base ≤ a.heap.size) : Ch base g bl a b :=
  ⟨h.os, h.tape, h.output, h.size, fun k hk h1 _ => h.block k (by omega) (by intro e; injection e with e; exact h1 e)⟩
section
variable {P : Program} {w : World}
/-- append onto a row of the call's own, at a step of a region that draws its order. -/
theorem step_append_rd {ops : Array Oper} {o : Oper} {a : Act} {K : Act → World → Prop} {Q : Exit → Act → World → Prop} {EE : Prop} (hgd : o.guard = none) (s x : Operand) (t : TypeId)
    (ho : o.op = .call { callee := .builtin .append, args := #[s, x], argTypes := #[t, t] })
    (base : Nat) (e : TypeId) (i : TypeInfo) (z : Value) (size bytes : Nat) (ht : P.underlying t = some (.slice e)) (hi : P.info? e = some i) (hz : i.zero = some z)
    (hsize : i.size = size) (hby : i.bytes = bytes) (hzs : z.cells.size = size) (hsz : 0 < size)
    (v : Value) (n : Nat) (xs : List Value) (hs : a.eval s = v) (hown : w.ownsRow base e size v n xs)
    (B : Nat) (A : Option Addr) (m c : Nat) (news : List Value) (hx : a.eval x = .slice A m c) (hr : Rd w B size A m news) (h1 : ∀ u ∈ news, u.oneCell' = true)
    (h63 : n + m ≤ maxLen) (hbytes : (n + m) * bytes ≤ 140737488355328) (hbase : base ≤ w.heap.size)
    (h : ∀ A' c' w', w'.ownsRow base e size (.slice A' (n + m) c') (n + m) (xs ++ news) → w.grownBy w' v.ownBlock → ((Value.slice A' (n + m) c').ownBlock = v.ownBlock ∨ (Value.slice A' (n + m) c').ownBlock = some w.heap.size) → K (a.put o.dst (.slice A' (n + m) c')) w') : if Region.wanted o (yielded ops a.tmps) = true then Oper.wp P o a w K Q else EE := by
  have hw : Region.wanted o (yielded ops a.tmps) = true := by simp [Region.wanted, hgd]
  rw [if_pos hw]
  exact wp_append_rd w s x t ho base e i z size bytes ht hi hz hsize hby hzs hsz v n xs hs hown B A m c news hx hr h1 h63 hbytes hbase h
end
theorem sz_da (w : World) (o : Obj) : w.heap.size ≤ (w.drew.alloc o).heap.size := by show w.heap.size ≤ (w.heap.push o).size; simp
theorem far_cell {w w1 : World} {o : Obj} {row : Option Nat} {a : Addr} {x : Value} (hg : (w.drew.alloc o).grownBy w1 row) (hlt : a.block < w.heap.size) (hne : some a.block ≠ row) (h : w.cell? a = some x) : w1.cell? a = some x :=
  (hg.cell_far a (Nat.lt_of_lt_of_le hlt (sz_da w o)) hne).trans ((World.cell?_alloc_lt w.drew o a hlt).trans h)
theorem far_frozen {w w1 : World} {o : Obj} {row : Option Nat} {a : Addr} {x : Bool} (hg : (w.drew.alloc o).grownBy w1 row) (hlt : a.block < w.heap.size) (hne : some a.block ≠ row) (h : w.frozen? a = x) : w1.frozen? a = x :=
  (hg.frozen_far a (Nat.lt_of_lt_of_le hlt (sz_da w o)) hne).trans ((World.frozen?_of_block (a := a) (show (w.drew.alloc o).heap[a.block]? = w.drew.heap[a.block]? from heap_alloc_old w.drew o hlt)).trans h)
theorem Acc.next {w w1 : World} {o : Obj} {base bl g : Nat} {ps : List ByteArray} {v : Value} {A1 : Option Addr} {c1 : Nat} {s : ByteArray} (hown : w.ownsRow base 9 1 v ps.length (ps.map Value.string)) (hbl : bl < base) (hbase : base ≤ w.heap.size) (h1 : w1.cell? ⟨bl, 0, none⟩ = some v) (hf : w1.frozen? ⟨bl, 0, none⟩ = false)
    (hown1 : w1.ownsRow base 9 1 (.slice A1 (ps.length + 1) c1) (ps.length + 1) (ps.map Value.string ++ [.string s])) (hg : (w.drew.alloc o).grownBy w1 v.ownBlock) :
    Acc (w1.setCell ⟨bl, 0, none⟩ (.slice A1 (ps.length + 1) c1)) base bl (ps ++ [s]) ∧ Ch base g bl w (w1.setCell ⟨bl, 0, none⟩ (.slice A1 (ps.length + 1) c1)) := by
  have hs := sz_da w o
  refine ⟨⟨_, World.cell?_setCell_same _ _ _ h1, by simpa using hf, ?_⟩, ⟨hg.os, hg.tape, hg.output, ?_, fun k hk _ h2 => ?_⟩⟩
  · rw [List.length_append, List.map_append]
    exact ownsRow_setCell_below hown1 hbl _
  · have := hg.size
    simp only [World.setCell, Array.size_modify]
    omega
  · rw [Below.heap_setCell _ _ _ _ h2, hg.block k (by omega) (fun e => by have := (hown.lt k e.symm).1; omega)]
    exact heap_alloc_old w.drew o (by show k < w.heap.size; omega)
theorem piece_one (s : ByteArray) : ∀ u ∈ [Value.string s], u.oneCell' = true := one1 rfl
set_option maxHeartbeats 400000 in
theorem each_any (k p bl bt base : Nat) (S : ByteArray) (ps : List ByteArray) (w : World) (hacc : Acc w base bl ps) (ht : w.cell? ⟨bt, 0, none⟩ = some (.string S)) (hbl : bl < base) (hbase : base ≤ w.heap.size) (hkp : k ≤ p) (hp : p ≤ S.size) (hps : ps.length ≤ 1000) (g : Nat) :
    Calls Try.prog 103 #[.int .i64 (k : Int), .int .i64 (p : Int), .pointer (some ⟨bl, 0, none⟩), .pointer (some ⟨bt, 0, none⟩)] w fun e w' => e = .returned (.tuple #[]) ∧ Acc w' base bl (ps ++ [S.extract k p]) ∧ Ch base g bl w w' := by
  obtain ⟨i0, hi, hz0, hz1, hz2⟩ := info_parts info_str
  obtain ⟨v, hc, hf, hown⟩ := hacc
  have h1 : (0 : Int) ≤ (k : Int) := by omega
  have h2 : (k : Int) ≤ (p : Int) := by omega
  have h3 : (p : Int) ≤ (S.size : Int) := by omega
  have hbw : bl < w.heap.size := by omega
  have hne : some bl ≠ v.ownBlock := fun e => by have := (hown.lt bl e.symm).1; omega
  go_enter Try.func103, Try.ntmps103
  go_wp2_with fail
  go_region_law ((refine step_append_rd (w := w.drew.alloc _) (by rfl) (.tmp 6) (.tmp 11) 23 (by rfl) base 9 i0 _ 1 16 Try.underlying23 hi hz0 hz1 hz2 rfl (by omega) v ps.length (ps.map Value.string) (by rfl) (World.ownsRow.alloc (w := w.drew) hown _) _ _ 1 1 [_] (by rfl) (Rd.lit1 _ _ _) (one1 rfl) (by unfold maxLen; omega) (by omega) (Nat.le_trans hbase (sz_da w _)) ?_; intro A1 c1 w1 hown1 hgrow1 hob; have q1 := far_cell (a := ⟨bl, 0, none⟩) hgrow1 hbw hne hc; have q2 := far_frozen (a := ⟨bl, 0, none⟩) hgrow1 hbw hne hf))
  all_goals
    go_wp2
    go_end0
    have q3 := far_cell (a := ⟨bl, 0, none⟩) hgrow1 hbw hne hc
    have q4 := far_frozen (a := ⟨bl, 0, none⟩) hgrow1 hbw hne hf
    obtain ⟨r1, r2⟩ := Acc.next (g := g) hown hbl hbase q3 q4 hown1 hgrow1
    exact ⟨rfl, r1, r2⟩
end Go.Proofs.Ytmbljapjecclaab
