/- Which blocks stay; a heap in a set of blocks of its own; one cell of a row written. Conditions: none. -/
import Derived.Test.YthogfcdgbodccaaHpB
set_option maxRecDepth 100000
namespace Go.Proofs.Ythogfcdgbodccaa
open Go.ChangeShapes Go.WideShapes Go.ChangeAt Go.RowKit
/-- All blocks stay but those of M. -/
structure Ke (M : Nat → Prop) (W w : World) : Prop where
  os : w.os = W.os
  tape : w.tape = W.tape
  out : w.output = W.output
  size : W.heap.size ≤ w.heap.size
  blk : ∀ k, k < W.heap.size → ¬ M k → w.heap[k]? = W.heap[k]?
section
variable {M N : Nat → Prop} {W w w' : World}
theorem Ke.refl : Ke M W W := ⟨rfl, rfl, rfl, Nat.le_refl _, fun _ _ _ => rfl⟩
theorem Ke.grown (h : Ke M W w) {row : Option Nat} (hg : w.grownBy w' row) (hr : ∀ q, row = some q → M q ∨ W.heap.size ≤ q) : Ke M W w' :=
  ⟨hg.os.trans h.os, hg.tape.trans h.tape, hg.output.trans h.out, Nat.le_trans h.size hg.size, fun k hk hn => (hg.block k (Nat.lt_of_lt_of_le hk h.size) (fun e => by rcases hr k e.symm with h1 | h1; exact hn h1; omega)).trans (h.blk k hk hn)⟩
theorem Ke.alloc (h : Ke M W w) (o : Obj) : Ke M W (w.alloc o) := h.grown (World.grownBy_alloc w o none) fun _ e => by cases e
theorem Ke.below (h : Ke M W w) (hb : Below w.heap.size w w') : Ke M W w' :=
  ⟨hb.os.trans h.os, hb.tape.trans h.tape, hb.output.trans h.out, Nat.le_trans h.size hb.size, fun k hk hn => (hb.block k (Nat.lt_of_lt_of_le hk h.size)).trans (h.blk k hk hn)⟩
theorem Ke.of (hb : Below W.heap.size W w) : Ke M W w := Ke.refl.below hb
theorem Ke.set (h : Ke M W w) {g : Nat} (o : Nat) (v : Value) (hg : M g ∨ W.heap.size ≤ g) : Ke M W (w.setCell ⟨g, o, none⟩ v) :=
  ⟨h.os, h.tape, h.out, by simpa [World.setCell] using h.size, fun k hk hn => (Below.heap_setCell _ _ _ _ (fun e => by have e' : k = g := e; subst e'; rcases hg with h1 | h1; exact hn h1; omega)).trans (h.blk k hk hn)⟩
theorem Ke.trans (h : Ke M W w) (k : Ke N w w') (hN : ∀ k, k < W.heap.size → N k → M k) : Ke M W w' :=
  ⟨k.os.trans h.os, k.tape.trans h.tape, k.out.trans h.out, Nat.le_trans h.size k.size, fun i hi hn => (k.blk i (Nat.lt_of_lt_of_le hi h.size) (fun e => hn (hN i hi e))).trans (h.blk i hi hn)⟩
theorem Ke.drew (h : Ke M W w) : Ke M W w.drew := ⟨h.os, h.tape, h.out, h.size, h.blk⟩
theorem Ke.bel (h : Ke M W w) {B : Nat} (hM : ∀ k, M k → B ≤ k) (hB : B ≤ W.heap.size) : Below B W w :=
  ⟨h.os, h.tape, h.out, h.size, fun k hk => h.blk k (by omega) fun e => by have := hM k e; omega⟩
end
/-- One cell of a row of the call's own is written. -/
theorem own_setC {w : World} {base g n c k size : Nat} {e : TypeId} {xs : List Value} (h : w.ownsRow base e size (.slice (some ⟨g, 0, none⟩) n c) n xs) (v : Value) : (w.setCell ⟨g, k, none⟩ v).ownsRow base e size (.slice (some ⟨g, 0, none⟩) n c) n (xs.set k v) := by
  obtain ⟨hl, h⟩ := h
  rcases h with ⟨h, _⟩ | ⟨g', cap, cur, h1, h2, h3, h4, h5, h6, h7⟩
  · cases h
  · injection h1 with h1 _ h1'
    injection h1 with h1
    injection h1 with h1
    subst h1 h1'
    refine ⟨by simpa using hl, .inr ⟨g, c, _, rfl, h2, heap_setN h3 v, h4, h5, by simpa using h6, ?_⟩⟩
    rw [Array.toList_setIfInBounds, List.take_set, h7]
theorem own_cellC {w : World} {base g n c k size : Nat} {e : TypeId} {xs : List Value} (h : w.ownsRow base e size (.slice (some ⟨g, 0, none⟩) n c) n xs) {u : Value} (hu : xs[k]? = some u) : w.cell? ⟨g, k, none⟩ = some u ∧ w.frozen? ⟨g, k, none⟩ = false ∧ base ≤ g ∧ g < w.heap.size := by
  obtain ⟨hl, h⟩ := h
  rcases h with ⟨h, _⟩ | ⟨g', cap, cur, h1, h2, h3, h4, h5, h6, h7⟩
  · cases h
  · injection h1 with h1 _ h1'
    injection h1 with h1
    injection h1 with h1
    subst h1 h1'
    refine ⟨?_, ?_, h2, (Array.getElem?_eq_some_iff.1 h3).1⟩
    · rw [Lib.cell_of_heap h3]
      show cur[k]? = some u
      rw [← Array.getElem?_toList]
      rw [← h7, List.getElem?_take] at hu
      split at hu
      · exact hu
      · cases hu
    · exact Lib.frozen_of_heap h3 k
theorem ceL_get {l : List (Int × Int)} {i j : Nat} {c : Int × Int} (h : l[i]? = some c) (hj : j < 2) : (ceL l)[i * 2 + j]? = [Value.int .i64 c.1, .int .i64 c.2][j]? := by
  unfold ceL
  rw [flat_at (k := 2) (fun q hq => by obtain ⟨p, _, rfl⟩ := List.mem_map.1 hq; rfl) i j hj, List.getElem?_map, h]
  rfl
theorem ceL_set : ∀ (l : List (Int × Int)) (i : Nat) (c : Int × Int), i < l.length → ((ceL l).set (i * 2) (.int .i64 c.1)).set (i * 2 + 1) (.int .i64 c.2) = ceL (l.set i c)
  | [], _, _, h => by simp at h
  | a :: r, 0, c, _ => by simp [ceL]
  | a :: r, i + 1, c, h => by
    have ih := ceL_set r i c (by simpa using h)
    have e : ceL (a :: r) = .int .i64 a.1 :: .int .i64 a.2 :: ceL r := by simp [ceL]
    have e' : ceL (a :: r.set i c) = .int .i64 a.1 :: .int .i64 a.2 :: ceL (r.set i c) := by simp [ceL]
    rw [List.set_cons_succ, e', ← ih, e, show (i + 1) * 2 = i * 2 + 1 + 1 by omega, show i * 2 + 1 + 1 + 1 = i * 2 + 1 + 1 + 1 from rfl, List.set_cons_succ, List.set_cons_succ, List.set_cons_succ, List.set_cons_succ]
/-- The heap's blocks. -/
def HPb (P : Nat) (cv zv sv : Value) (k : Nat) : Prop := k = P ∨ cv.ownBlock = some k ∨ zv.ownBlock = some k ∨ sv.ownBlock = some k
/-- The heap in block P, all of it in the blocks of M. -/
def HM (w : World) (M : Nat → Prop) (P room : Nat) (bs : List BK) : Prop := ∃ cells shapes cv zv sv, HPc w 0 P room bs cells shapes cv zv sv ∧ ∀ k, HPb P cv zv sv k → M k
theorem own_keep {w w' : World} {base n size : Nat} {e : TypeId} {v : Value} {xs : List Value} {M N : Nat → Prop} (h : w.ownsRow base e size v n xs) (hk : Ke N w w') (hv : ∀ b, v.ownBlock = some b → M b) (hd : ∀ k, M k → ¬ N k) : w'.ownsRow base e size v n xs :=
  own_stay h fun b hb => hk.blk b (h.lt b hb).2 (hd b (hv b hb))
theorem HM.keep {w w' : World} {M N : Nat → Prop} {P room : Nat} {bs : List BK} (h : HM w M P room bs) (hk : Ke N w w') (hd : ∀ k, M k → ¬ N k) : HM w' M P room bs := by
  obtain ⟨cells, shapes, cv, zv, sv, hc, hm⟩ := h
  refine ⟨cells, shapes, cv, zv, sv, ⟨hc.hP, ?_, own_keep hc.cel hk (fun b hb => hm b (.inr (.inl hb))) hd, own_keep hc.siz hk (fun b hb => hm b (.inr (.inr (.inl hb)))) hd, own_keep hc.sha hk (fun b hb => hm b (.inr (.inr (.inr hb)))) hd, hc.dis, hc.lc, hc.ls, hc.fit, hc.row⟩, hm⟩
  exact (hk.blk P (Array.getElem?_eq_some_iff.1 hc.box).1 (hd P (hm P (.inl rfl)))).trans hc.box
theorem HM.below {w w' : World} {M : Nat → Prop} {P room : Nat} {bs : List BK} (h : HM w M P room bs) (hb : Below w.heap.size w w') : HM w' M P room bs :=
  h.keep (N := fun _ => False) (Ke.of hb) fun _ _ h => h
/-- A local struct of two cells, behind what stays below. -/
theorem loc2 {w w1 : World} {u v : Value} {T : TypeId} (hb : Below (w.alloc (.cells #[u, v] T)).heap.size (w.alloc (.cells #[u, v] T)) w1) : (w1.cell? ⟨w.heap.size, 0, none⟩ = some u ∧ w1.cell? ⟨w.heap.size, 1, none⟩ = some v) ∧ w1.frozen? ⟨w.heap.size, 0, none⟩ = false ∧ w1.frozen? ⟨w.heap.size, 1, none⟩ = false :=
  ⟨⟨(hb.cell (p := ⟨w.heap.size, 0, none⟩) (by simp)).trans (by rw [Lib.cell_of_heap (heap_alloc_new w _)]; rfl), (hb.cell (p := ⟨w.heap.size, 1, none⟩) (by simp)).trans (by rw [Lib.cell_of_heap (heap_alloc_new w _)]; rfl)⟩,
    (hb.frozen (p := ⟨w.heap.size, 0, none⟩) (by simp)).trans (Lib.frozen_of_heap (heap_alloc_new w _) 0), (hb.frozen (p := ⟨w.heap.size, 1, none⟩) (by simp)).trans (Lib.frozen_of_heap (heap_alloc_new w _) 1)⟩
theorem below_loc2 {w w1 : World} (hb : Below w.heap.size w w1) (u v : Value) : Below w.heap.size w ((w1.setCell ⟨w.heap.size, 0, none⟩ u).setCell ⟨w.heap.size, 1, none⟩ v) :=
  Below.setCell (Below.setCell hb (p := ⟨w.heap.size, 0, none⟩) (Nat.le_refl _) u) (p := ⟨w.heap.size, 1, none⟩) (Nat.le_refl _) v
end Go.Proofs.Ythogfcdgbodccaa
