/- The document's reader in its boxes, and its two closures. Conditions: the bytes are few. -/
import Derived.Test.YtgcedkioanolcaaUnH
set_option maxRecDepth 100000
namespace Go.Proofs.Ytgcedkioanolcaa
open Go.ChangeShapes Go.WideShapes Go.ChangeAt Go.RowKit
/-- b[a:e] of bytes that are read. -/
theorem slice_mid {w : World} {B n c a e : Nat} {A : Option Addr} {xs : List Value} (hae : a ≤ e) (he : e ≤ n) (hc : n ≤ c) (hr : Rd w B 1 A n xs) :
    ∃ A1, (∀ W, (Instr.slice 68 (.slice A n c) (some (.int .i64 (a : Int))) (some (.int .i64 (e : Int))) none).run Try.prog W = .ok (.slice A1 (e - a) (c - a)) W) ∧ Rd w B 1 A1 (e - a) ((xs.take e).drop a) := by
  have hs : ∀ w, (sizeOf (Try.prog.elem 68)).run Try.prog w = .ok 1 w := fun w => by kernel_rfl
  have hr2 := hr.takes he
  refine ⟨if c = a then A else A.map (·.add a), fun W => ?_, ?_⟩
  · rw [run_slice_lh W 68 A n c Try.underlying68 .i64 .i64 (a : Int) (e : Int) (by omega) (by omega) (by omega), hs]
    simp [Result.andThen, sliced]
  · refine ⟨by have := hr2.1; simp at this ⊢; omega, fun h0 => ?_⟩
    obtain ⟨b, off, rfl, hb, hcell⟩ := hr2.2 (by omega)
    refine ⟨b, off + a, ?_, hb, fun j u hu => ?_⟩
    · rw [if_neg (by omega)]
      simp [Addr.add]
    · rw [List.getElem?_drop] at hu
      have := hcell (a + j) u hu
      rwa [← Nat.add_assoc] at this
/-- The document's reader: the bytes in block g1, their end in g5, the place in g7, 'ok' in g8. -/
structure RQ (B g1 g5 g7 g8 : Nat) (A : Option Addr) (N C : Nat) (D : List Int) (m : Nat) (L : List Int) (bad : Bool) (w : World) : Prop where
  le : B ≤ g1 ∧ g1 < g5 ∧ g5 < g7 ∧ g7 < g8
  z : U8s D
  n : m ≤ N ∧ N ≤ C ∧ N ≤ 1048576 ∧ D.length = N
  c1 : w.heap[g1]? = some (.cells #[.slice A N C] 68 (0, 0))
  c5 : w.heap[g5]? = some (.cells #[.int .i64 (m : Int)] 3 (0, 0))
  c7 : ∃ a : Nat, a ≤ m ∧ L = (D.take m).drop a ∧ w.heap[g7]? = some (.cells #[.int .i64 (a : Int)] 3 (0, 0))
  c8 : w.heap[g8]? = some (.cells #[.bool (!bad)] 4 (0, 0))
  rd : Rd w B 1 A N (D.map (Value.int .u8))
section
variable {B g1 g5 g7 g8 : Nat} {A : Option Addr} {N C : Nat} {D : List Int} {m : Nat} {L : List Int} {bad : Bool} {w w' : World}
theorem RQ.u8 (h : RQ B g1 g5 g7 g8 A N C D m L bad w) : U8s L := by
  obtain ⟨a, _, e, _⟩ := h.c7
  subst e
  exact fun z hz => h.z z (List.mem_of_mem_take (List.mem_of_mem_drop hz))
theorem RQ.len (h : RQ B g1 g5 g7 g8 A N C D m L bad w) : L.length ≤ 1048576 := by
  obtain ⟨a, _, e, _⟩ := h.c7
  have h1 := h.n
  subst e
  rw [List.length_drop, List.length_take]
  omega
theorem RQ.lt (h : RQ B g1 g5 g7 g8 A N C D m L bad w) : g8 < w.heap.size := (Array.getElem?_eq_some_iff.1 h.c8).1
theorem RQ.keep (h : RQ B g1 g5 g7 g8 A N C D m L bad w) (hb : Below w.heap.size w w') : RQ B g1 g5 g7 g8 A N C D m L bad w' := by
  have hl := h.le
  have hlt := h.lt
  obtain ⟨a, h1, h2, h3⟩ := h.c7
  exact ⟨h.le, h.z, h.n, (hb.block g1 (by omega)).trans h.c1, (hb.block g5 (by omega)).trans h.c5, ⟨a, h1, h2, (hb.block g7 (by omega)).trans h3⟩, (hb.block g8 (by omega)).trans h.c8, h.rd.keep fun p hp => hb.cell (by omega)⟩
/-- What is another's may change. -/
theorem RQ.grown (h : RQ B g1 g5 g7 g8 A N C D m L bad w) {row : Option Nat} (hg : w.grownBy w' row) (hr : ∀ q, row = some q → g8 < q) : RQ B g1 g5 g7 g8 A N C D m L bad w' := by
  have hl := h.le
  have hlt := h.lt
  have hk : ∀ k, k ≤ g8 → w'.heap[k]? = w.heap[k]? := fun k hk => hg.block k (by omega) (fun e => by have := hr k e.symm; omega)
  obtain ⟨a, h1, h2, h3⟩ := h.c7
  exact ⟨h.le, h.z, h.n, (hk g1 (by omega)).trans h.c1, (hk g5 (by omega)).trans h.c5, ⟨a, h1, h2, (hk g7 (by omega)).trans h3⟩, (hk g8 (by omega)).trans h.c8, h.rd.keep fun p hp => World.cell?_of_block (hk p.block (by omega))⟩
theorem RQ.put8 (h : RQ B g1 g5 g7 g8 A N C D m L bad w) (b : Bool) : RQ B g1 g5 g7 g8 A N C D m L (!b) (w.setCell ⟨g8, 0, none⟩ (.bool b)) := by
  have hl := h.le
  have hk : ∀ k, k ≠ g8 → (w.setCell ⟨g8, 0, none⟩ (.bool b)).heap[k]? = w.heap[k]? := fun k hk => Below.heap_setCell _ _ _ _ hk
  obtain ⟨a, h1, h2, h3⟩ := h.c7
  refine ⟨h.le, h.z, h.n, (hk g1 (by omega)).trans h.c1, (hk g5 (by omega)).trans h.c5, ⟨a, h1, h2, (hk g7 (by omega)).trans h3⟩, ?_, h.rd.keep fun p hp => World.cell?_of_block (hk p.block (by omega))⟩
  have h8 := h.c8
  simp [World.setCell, Array.getElem?_modify, h8]
theorem RQ.put7 (h : RQ B g1 g5 g7 g8 A N C D m L bad w) {a : Nat} {L' : List Int} (ha : a ≤ m) (hL : L' = (D.take m).drop a) : RQ B g1 g5 g7 g8 A N C D m L' bad (w.setCell ⟨g7, 0, none⟩ (.int .i64 (a : Int))) := by
  have hl := h.le
  have hk : ∀ k, k ≠ g7 → (w.setCell ⟨g7, 0, none⟩ (.int .i64 (a : Int))).heap[k]? = w.heap[k]? := fun k hk => Below.heap_setCell _ _ _ _ hk
  obtain ⟨a', h1, h2, h3⟩ := h.c7
  refine ⟨h.le, h.z, h.n, (hk g1 (by omega)).trans h.c1, (hk g5 (by omega)).trans h.c5, ⟨a, ha, hL, ?_⟩, (hk g8 (by omega)).trans h.c8, h.rd.keep fun p hp => World.cell?_of_block (hk p.block (by omega))⟩
  simp [World.setCell, Array.getElem?_modify, h3]
end
theorem Ch.set_a {a b : Nat} {W w : World} (h : Ch a b W w) (v : Value) (o : Nat) : Ch a b W (w.setCell ⟨a, o, none⟩ v) := h.grown (grown_set v) fun q e => by injection e with e; exact .inl e.symm
theorem Ch.set_b {a b : Nat} {W w : World} (h : Ch a b W w) (v : Value) (o : Nat) : Ch a b W (w.setCell ⟨b, o, none⟩ v) := h.grown (grown_set v) fun q e => by injection e with e; exact .inr (.inl e.symm)
theorem Ch.of_below {a b : Nat} {W w : World} (h : Below W.heap.size W w) : Ch a b W w := ⟨h.os, h.tape, h.output, h.size, fun k hk _ _ => h.block k hk⟩
/-- What lies in W stays, but for the blocks of S. -/
structure Cz (S : Nat → Prop) (W w : World) : Prop where
  os : w.os = W.os
  tape : w.tape = W.tape
  out : w.output = W.output
  size : W.heap.size ≤ w.heap.size
  blk : ∀ k, k < W.heap.size → ¬ S k → w.heap[k]? = W.heap[k]?
section
variable {S T : Nat → Prop} {W w w' : World}
theorem Cz.refl : Cz S W W := ⟨rfl, rfl, rfl, Nat.le_refl _, fun _ _ _ => rfl⟩
theorem Cz.ch {a b : Nat} (h : Cz S W w) (k : Ch a b w w') (ha : S a) (hb : S b) : Cz S W w' :=
  ⟨k.os.trans h.os, k.tape.trans h.tape, k.out.trans h.out, Nat.le_trans h.size k.size, fun i hi hn => (k.blk i (Nat.lt_of_lt_of_le hi h.size) (fun e => hn (e ▸ ha)) (fun e => hn (e ▸ hb))).trans (h.blk i hi hn)⟩
theorem Cz.grown (h : Cz S W w) {row : Option Nat} (hg : w.grownBy w' row) (hr : ∀ q, row = some q → S q ∨ W.heap.size ≤ q) : Cz S W w' :=
  ⟨hg.os.trans h.os, hg.tape.trans h.tape, hg.output.trans h.out, Nat.le_trans h.size hg.size, fun k hk hn => (hg.block k (Nat.lt_of_lt_of_le hk h.size) (fun e => by rcases hr k e.symm with h1 | h1; exact hn h1; omega)).trans (h.blk k hk hn)⟩
theorem Cz.alloc (h : Cz S W w) (o : Obj) : Cz S W (w.alloc o) := h.grown (World.grownBy_alloc w o none) fun _ e => by cases e
theorem Cz.below (h : Cz S W w) (hb : Below w.heap.size w w') : Cz S W w' :=
  ⟨hb.os.trans h.os, hb.tape.trans h.tape, hb.output.trans h.out, Nat.le_trans h.size hb.size, fun k hk hn => (hb.block k (Nat.lt_of_lt_of_le hk h.size)).trans (h.blk k hk hn)⟩
theorem Cz.set (h : Cz S W w) {g : Nat} (o : Nat) (v : Value) (hg : S g ∨ W.heap.size ≤ g) : Cz S W (w.setCell ⟨g, o, none⟩ v) := h.grown (grown_set v) fun q e => by injection e with e; exact e ▸ hg
theorem Cz.trans (h : Cz S W w) (k : Cz T w w') (hk : ∀ k, k < W.heap.size → T k → S k) : Cz S W w' :=
  ⟨k.os.trans h.os, k.tape.trans h.tape, k.out.trans h.out, Nat.le_trans h.size k.size, fun i hi hn => (k.blk i (Nat.lt_of_lt_of_le hi h.size) (fun e => hn (hk i hi e))).trans (h.blk i hi hn)⟩
theorem Own.cz {X : Type} {Sh : Shp X} {t : TypeId} {base : Nat} {v : Value} {xs : List X} (h : Own Sh t w base (· < base) v xs) (hg : Cz S w w') (hS : ∀ k, S k → k < base) : Own Sh t w' base (· < base) v xs :=
  h.keep hg.size (fun k hk hE => hg.blk k hk (fun e => hE (hS k e))) (fun k hk hE => by have := (h.ownlt hk).1; omega)
theorem row_cz {base n : Nat} {e : TypeId} {v : Value} {xs : List Value} (h : w.ownsRow base e 1 v n xs) (hg : Cz S w w') (hS : ∀ k, S k → k < base) : w'.ownsRow base e 1 v n xs :=
  own_heap h hg.size fun k hk => hg.blk k (h.lt k hk).2 (fun e => by have := hS k e; have := (h.lt k hk).1; omega)
end
theorem Ch.cz {a b : Nat} {W w : World} (h : Ch a b W w) : Cz (fun k => k = a ∨ k = b) W w := Cz.refl.ch h (.inl rfl) (.inr rfl)
set_option maxHeartbeats 2000000 in
theorem qNum_any (B g1 g5 g7 g8 : Nat) (A : Option Addr) (N C : Nat) (D : List Int) (m : Nat) (L : List Int) (bad : Bool) (w : World) (h : RQ B g1 g5 g7 g8 A N C D m L bad w) :
    Calls Try.prog 62 #[.pointer (some ⟨g1, 0, none⟩), .pointer (some ⟨g7, 0, none⟩), .pointer (some ⟨g5, 0, none⟩), .pointer (some ⟨g8, 0, none⟩)] w fun e w' => e = .returned (.int .i64 (numQ bad L).1) ∧ RQ B g1 g5 g7 g8 A N C D m (numQ bad L).2.2 (numQ bad L).2.1 w' ∧ Ch g7 g8 w w' := by
  have HR := Lib.hid h
  obtain ⟨l1, l2, l3, l4⟩ := h.le
  have hlt := h.lt
  obtain ⟨n1, n2, n3, n4⟩ := h.n
  obtain ⟨a, ha, hL, h7⟩ := h.c7
  have c1 : w.cell? ⟨g1, 0, none⟩ = some (.slice A N C) := by rw [Lib.cell_of_heap h.c1]; rfl
  have c5 : w.cell? ⟨g5, 0, none⟩ = some (.int .i64 (m : Int)) := by rw [Lib.cell_of_heap h.c5]; rfl
  have c7 : w.cell? ⟨g7, 0, none⟩ = some (.int .i64 (a : Int)) := by rw [Lib.cell_of_heap h7]; rfl
  obtain ⟨A1, hsl, hr1⟩ := slice_mid (w := w) ha n1 n2 h.rd
  have hlen : L.length = m - a := by rw [hL, List.length_drop, List.length_take]; omega
  rw [← List.map_take, ← List.map_drop, ← hL] at hr1
  have HL := Lib.hid hL
  have HA := Lib.hid ha
  have HU := Lib.hid h.u8
  have HR1 := Lib.hid hr1
  have HLN := Lib.hid hlen
  have HCA := Lib.hid (show m - a ≤ C - a by omega)
  clear h7 hL hr1 hlen h
  generalize hk : m - a = k at *
  generalize hq : C - a = q at *
  have HK := Lib.hid hk
  have hkn : k ≤ 1048576 := by omega
  clear hk hq
  go_enter Try.func62, Try.ntmps62
  go_wp2_with fail
  refine Calls.mono (refTakeNumber_any A1 k q L w (HR1.out.more (by omega)) HU.out (by omega) HCA.out) ?_
  rintro e w1 ⟨⟨x, y, z, rfl, htk⟩, hb⟩
  have HTK := Lib.hid htk
  have HB := Lib.hid hb
  have HR2 := Lib.hid (HR.out.keep hb)
  have c7 : w1.cell? ⟨g7, 0, none⟩ = some (.int .i64 (a : Int)) := (hb.cell (p := ⟨g7, _, none⟩) (by show g7 < _; omega)).trans c7
  have c8 : w1.cell? ⟨g8, 0, none⟩ = some (.bool (!bad)) := by rw [Lib.cell_of_heap HR2.out.c8]; rfl
  have f7 : w1.frozen? ⟨g7, 0, none⟩ = false := by obtain ⟨_, _, _, h7⟩ := HR2.out.c7; exact Lib.frozen_of_heap h7 0
  have f8 : w1.frozen? ⟨g8, 0, none⟩ = false := Lib.frozen_of_heap HR2.out.c8 0
  have hne : g7 ≠ g8 := by omega
  clear htk hb
  rcases HTK.out with ⟨t, ht, rfl, rfl, rfl⟩ | ⟨ht, rfl, rfl, rfl⟩
  · have hnum := numP_some (L := L) (t := t) (by rw [HLN.out]; exact ht)
    have HS := Lib.hid (show numQ bad L = (unzig (hval (by_ L) 0 (t + 1)), bad, L.drop (t + 1)) by unfold numQ; rw [hnum])
    have HP7 := Lib.hid (fun W (hW : RQ B g1 g5 g7 g8 A N C D m L bad W) => hW.put7 (a := a + (t + 1)) (L' := L.drop (t + 1)) (by have := ht.1; have := HK.out; omega) (by rw [HL.out, List.drop_drop]))
    obtain ⟨k1, hk1⟩ : ∃ k, k = t + 1 := ⟨_, rfl⟩
    have hw : RowKit.wrap64 ((a : Int) + (k1 : Int)) = (a : Int) + (k1 : Int) := by have := ht.1; unfold RowKit.wrap64; omega
    rw [← hk1] at HS HP7 ⊢
    clear ht hnum hk1 HTK
    generalize unzig (hval (by_ L) 0 k1) = x at *
    cases bad with
    | true =>
      go_wp2_with fail
      go_ret
      rw [HS.out]
      exact ⟨rfl, by rw [← Int.natCast_add]; exact HP7.out _ (HR2.out.put8 false), ((Ch.of_below HB.out).set_b _ _).set_a _ _⟩
    | false =>
      go_wp2_with fail
      go_ret
      rw [HS.out]
      exact ⟨rfl, by rw [← Int.natCast_add]; exact HP7.out _ (HR2.out.put8 true), ((Ch.of_below HB.out).set_b _ _).set_a _ _⟩
  · have hnum := numP_none (L := L) (by rw [HLN.out]; exact ht)
    have HS := Lib.hid (show numQ bad L = (0, true, L) by unfold numQ; rw [hnum])
    clear ht hnum HTK
    cases bad with
    | true =>
      go_wp2_with fail
      go_ret
      rw [HS.out]
      exact ⟨rfl, (HR2.out.put8 false).put7 HA.out HL.out, ((Ch.of_below HB.out).set_b _ _).set_a _ _⟩
    | false =>
      go_wp2_with fail
      go_ret
      rw [HS.out]
      exact ⟨rfl, (HR2.out.put8 false).put7 HA.out HL.out, ((Ch.of_below HB.out).set_b _ _).set_a _ _⟩
/-- The closure that reads a number. -/
def numF (g1 g5 g7 g8 : Nat) : Value := .func (.func 62) #[] #[.pointer (some ⟨g1, 0, none⟩), .pointer (some ⟨g7, 0, none⟩), .pointer (some ⟨g5, 0, none⟩), .pointer (some ⟨g8, 0, none⟩)]
set_option maxHeartbeats 2000000 in
theorem qText_any (B g1 g5 g7 g8 g9 : Nat) (A : Option Addr) (N C : Nat) (D : List Int) (m : Nat) (L : List Int) (bad : Bool) (w : World) (h : RQ B g1 g5 g7 g8 A N C D m L bad w) (h9 : w.heap[g9]? = some (.cells #[numF g1 g5 g7 g8] 45 (0, 0))) :
    Calls Try.prog 64 #[.pointer (some ⟨g9, 0, none⟩), .pointer (some ⟨g8, 0, none⟩), .pointer (some ⟨g5, 0, none⟩), .pointer (some ⟨g7, 0, none⟩), .pointer (some ⟨g1, 0, none⟩)] w fun e w' => e = .returned (.string (texQ bad L).1) ∧ RQ B g1 g5 g7 g8 A N C D m (texQ bad L).2.2 (texQ bad L).2.1 w' ∧ Ch g7 g8 w w' := by
  have HR := Lib.hid h
  have c9 : w.cell? ⟨g9, 0, none⟩ = some (.func (.func 62) #[] #[.pointer (some ⟨g1, 0, none⟩), .pointer (some ⟨g7, 0, none⟩), .pointer (some ⟨g5, 0, none⟩), .pointer (some ⟨g8, 0, none⟩)]) := by rw [Lib.cell_of_heap h9]; rfl
  clear h h9
  go_enter Try.func64, Try.ntmps64
  go_wp2_with fail
  refine Calls.mono (qNum_any B g1 g5 g7 g8 A N C D m L bad w HR.out) ?_
  rintro e w1 ⟨rfl, h1, hc1⟩
  have HS := Lib.hid (show texQ bad L = if (numQ bad L).2.1 = true ∨ (numQ bad L).1 < 0 ∨ ((numQ bad L).2.2.length : Int) < (numQ bad L).1 then (⟨#[]⟩, true, (numQ bad L).2.2) else (strOfNums ((numQ bad L).2.2.take (numQ bad L).1.toNat), false, (numQ bad L).2.2.drop (numQ bad L).1.toNat) from rfl)
  generalize numQ bad L = q at *
  obtain ⟨x, b, R⟩ := q
  simp only at h1 HS ⊢
  have HR1 := Lib.hid h1
  have HC1 := Lib.hid hc1
  obtain ⟨l1, l2, l3, l4⟩ := h1.le
  obtain ⟨n1, n2, n3, n4⟩ := h1.n
  obtain ⟨a, ha, hL, h7⟩ := h1.c7
  have d1 : w1.cell? ⟨g1, 0, none⟩ = some (.slice A N C) := by rw [Lib.cell_of_heap h1.c1]; rfl
  have d5 : w1.cell? ⟨g5, 0, none⟩ = some (.int .i64 (m : Int)) := by rw [Lib.cell_of_heap h1.c5]; rfl
  have d7 : w1.cell? ⟨g7, 0, none⟩ = some (.int .i64 (a : Int)) := by rw [Lib.cell_of_heap h7]; rfl
  have d8 : w1.cell? ⟨g8, 0, none⟩ = some (.bool (!b)) := by rw [Lib.cell_of_heap h1.c8]; rfl
  have f7 : w1.frozen? ⟨g7, 0, none⟩ = false := Lib.frozen_of_heap h7 0
  have f8 : w1.frozen? ⟨g8, 0, none⟩ = false := Lib.frozen_of_heap h1.c8 0
  have hlen : R.length = m - a := by rw [hL, List.length_drop, List.length_take]; omega
  have HL := Lib.hid hL
  have HLN := Lib.hid hlen
  clear h1 hc1 h7 hL hlen c9
  cases b with
  | true =>
    rw [if_pos (.inl rfl)] at HS
    go_wp2_with fail
    go_ret
    rw [HS.out]
    exact ⟨rfl, HR1.out.put8 false, HC1.out.set_b _ _⟩
  | false =>
    by_cases h0 : x < 0
    · rw [if_pos (.inr (.inl h0))] at HS
      go_wp2_with fail
      go_ret
      rw [HS.out]
      exact ⟨rfl, HR1.out.put8 false, HC1.out.set_b _ _⟩
    · obtain ⟨k, rfl⟩ : ∃ k : Nat, x = (k : Int) := ⟨x.toNat, by omega⟩
      by_cases h2 : ((m - a : Nat) : Int) < (k : Int)
      · rw [if_pos (.inr (.inr (by rw [HLN.out]; exact h2)))] at HS
        have hd : decide ((m : Int) - (a : Int) < (k : Int)) = true := by simp; omega
        go_wp2_with fail
        go_ret
        rw [HS.out]
        exact ⟨rfl, HR1.out.put8 false, HC1.out.set_b _ _⟩
      · rw [if_neg (by simp; rw [HLN.out]; omega)] at HS
        have hd : decide ((m : Int) - (a : Int) < (k : Int)) = false := by simp; omega
        have hak : a + k ≤ m := by omega
        obtain ⟨A2, hs2, hr2⟩ := slice_mid (w := w1.setCell ⟨g7, 0, none⟩ (.int .i64 ((a : Int) + (k : Int)))) (a := a) (e := a + k) (Nat.le_add_right _ _) (by omega) n2 (HR1.out.rd.setCell (by show B ≤ g7; omega) _)
        rw [Nat.add_sub_cancel_left] at hs2 hr2
        simp only [Int.natCast_add] at hs2
        have he : ((D.map (Value.int .u8)).take (a + k)).drop a = (R.take k).map (Value.int .u8) := by
          rw [← List.map_take, ← List.map_drop, HL.out, List.drop_take, List.drop_take, List.take_take, Nat.add_sub_cancel_left, Nat.min_eq_left (by omega)]
        rw [he] at hr2
        have hx := run_str_rd (P := Try.prog) (c := C - a) hr2 68 5 9 Try.underlying68 Try.underlying5 Try.underlying9
        have HK := Lib.hid hak
        clear hr2 he hak
        go_wp2_with fail
        go_ret
        rw [HS.out]
        refine ⟨rfl, ?_, HC1.out.set_a _ _⟩
        rw [← Int.natCast_add]
        exact HR1.out.put7 HK.out (by rw [HL.out, List.drop_drop, Int.toNat_natCast])
end Go.Proofs.Ytgcedkioanolcaa
