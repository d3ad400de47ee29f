/- Numbers of any size, in memory: their words cut, made, given to an Int. Conditions: none. -/
import Derived.Test.YtgjhjojbaieeaaaDoorBase
import Derived.Test.YtgjhjojbaieeaaaDoorWds
import Derived.Deep.QuietTactic
import Derived.BigQuiet
import Derived.Handy
import Derived.Laws.BitsAllLaws
import Derived.Laws.BitsLemmas
set_option maxRecDepth 20000
namespace Go.Proofs.YtgjhjojbaieeaaaDoor
open Go.ChangeShapes Go.WideShapes Go.ChangeAt Go.RowKit
/-- Words, as values. -/
def u32s (l : List Nat) : List Value := l.map fun (d : Nat) => Value.int .u32 (d : Int)
@[simp] theorem u32s_len (l : List Nat) : (u32s l).length = l.length := by simp [u32s]
theorem u32s_one (l : List Nat) : ∀ u ∈ u32s l, u.oneCell' = true := by
  intro u hu
  obtain ⟨_, _, rfl⟩ := List.mem_map.1 hu
  rfl
theorem u32s_get (l : List Nat) (i : Nat) (h : i < l.length) : (u32s l)[i]? = some (.int .u32 ((l.getD i 0 : Nat) : Int)) := by
  simp [u32s, List.getD, List.getElem?_eq_getElem h]
theorem cell32 {w : World} {B n : Nat} {A : Option Addr} {l : List Nat} (h : Rd w B 1 A n (u32s l)) {k : Nat} (hk : k < n) :
    ∃ b off, A = some ⟨b, off, none⟩ ∧ w.cell? ⟨b, off + k, none⟩ = some (.int .u32 ((l.getD k 0 : Nat) : Int)) := by
  obtain ⟨b, off, u, e, _, hu, hc⟩ := h.at1 hk
  have hl : k < l.length := by have := h.1; simp at this; omega
  rw [u32s_get l k hl] at hu
  injection hu with hu
  subst hu
  exact ⟨b, off, e, hc⟩
theorem Rd.take {w : World} {B n m : Nat} {A : Option Addr} {xs : List Value} (h : Rd w B 1 A n xs) (hm : m ≤ n) : Rd w B 1 A m (xs.take m) := by
  have hl := h.1
  simp at hl
  refine ⟨by simp; omega, fun h0 => ?_⟩
  obtain ⟨b, off, e, hb, hc⟩ := h.2 (by omega)
  refine ⟨b, off, e, hb, fun j u hu => hc j u ?_⟩
  rw [List.getElem?_take] at hu
  split at hu
  · exact hu
  · cases hu
theorem u32s_take (l : List Nat) (m : Nat) : (u32s l).take m = u32s (l.take m) := by simp [u32s, List.map_take]
theorem trim_any (A : Option Addr) (n c : Nat) (l : List Nat) (hnl : n = l.length) (hl : ∀ d ∈ l, d < 4294967296) (w : World) (B : Nat) (h : Rd w B 1 A n (u32s l)) (hn : n ≤ 140737488355328) (hlc : n ≤ c) :
    Calls Tryd.prog 40 #[.slice A n c] w fun e w' => e = .returned (.slice A (wds (wv l)).length c) ∧ (∃ m, w' = w.drewN m) ∧ Rd w' B 1 A (wds (wv l)).length (u32s (wds (wv l))) := by
  subst hnl
  go_enter Tryd.func40, Tryd.ntmps40
  go_wp2_with fail
  go_loopw [3] (fun i wr => ∃ k m : Nat, k ≤ l.length ∧ i = .int .i64 k ∧ Hid (∀ d ∈ l.drop k, d = 0) ∧ wr = w.drewN m) (fun i _ => (intOf i).toNat)
  case atStart => exact ⟨l.length, 0, Nat.le_refl _, rfl, Lib.hid (by simp), rfl⟩
  case round =>
    obtain ⟨k, m, hk, rfl, HZ, rfl⟩ := hrel
    have fin : (k = 0 ∨ ∃ j, k = j + 1 ∧ l.getD j 0 ≠ 0) → l.take k = wds (wv l) := fun hh =>
      wds_take hl hk HZ.out (fun j hj => by
        rcases hh with h0 | ⟨j', h1, h2⟩
        · omega
        · obtain rfl : j = j' := by omega
          exact h2)
    have HF := Lib.hid fin
    clear fin
    rcases k with _ | j
    · have e := HF.out (.inl rfl)
      have e2 := congrArg List.length e
      simp at e2
      have HE := Lib.hid (And.intro e.symm e2.symm)
      clear e e2 HF
      go_wp2
      go_ret
      exact ⟨by rw [HE.out.2]; rfl, ⟨m, rfl⟩, by rw [HE.out.2, HE.out.1]; exact Rd.nil⟩
    · obtain ⟨b, off, rfl, hc⟩ := cell32 h (show j < l.length by omega)
      have HG := Lib.hid (show l.drop j = l.getD j 0 :: l.drop (j + 1) by
        rw [List.drop_eq_getElem_cons (show j < l.length by omega)]; simp [List.getD, List.getElem?_eq_getElem (show j < l.length by omega)])
      generalize hxx : l.getD j 0 = x at *
      have HX := Lib.hid hxx
      clear hxx
      by_cases hx : x = 0
      · subst hx
        go_wp2
        go_roundw
        case rel =>
          refine ⟨j, m, by omega, rfl, Lib.hid ?_, rfl⟩
          rw [HG.out]
          intro d hd
          rcases List.mem_cons.1 hd with rfl | hd
          · rfl
          · exact HZ.out d hd
        case measure => simp [intOf]
      · have e := HF.out (.inr ⟨j, rfl, by rw [HX.out]; exact hx⟩)
        have e2 := congrArg List.length e
        rw [List.length_take, Nat.min_eq_left (by omega)] at e2
        have HE := Lib.hid (And.intro e e2)
        clear e e2 HF
        go_wp2
        go_ret
        refine ⟨by rw [← HE.out.2]; rfl, ⟨m, rfl⟩, ?_⟩
        rw [← HE.out.2, ← HE.out.1, ← u32s_take]
        exact (h.take (by omega)).drewN m
/-- Words, in memory that is new. -/
def WPost (N : Nat) (w : World) (e : Ending) (w' : World) : Prop :=
  ∃ A c, e = .returned (.slice A (wds N).length c) ∧ Rd w' w'.heap.size 1 A (wds N).length (u32s (wds N)) ∧ (wds N).length ≤ c ∧ (∀ b off, A = some ⟨b, off, none⟩ → w.heap.size ≤ b) ∧ Below w.heap.size w w'
theorem wds2 {U : Nat} (h : U < 18446744073709551616) : wv [U % 4294967296, U / 4294967296] = U ∧ ∀ d ∈ [U % 4294967296, U / 4294967296], d < 4294967296 := by
  refine ⟨by simp [wv]; omega, ?_⟩
  intro d hd
  simp at hd
  rcases hd with rfl | rfl <;> omega
theorem words_any (z : Int) (U : Nat) (hz : z = (U : Int)) (hU : U < 18446744073709551616) (w : World) : Calls Tryd.prog 29 #[.int .u64 z] w (WPost U w) := by
  subst hz
  obtain ⟨hv, hl⟩ := wds2 hU
  go_enter Tryd.func29, Tryd.ntmps29
  go_wp2_with fail
  refine (trim_any (some ⟨w.heap.size, 0, none⟩) 2 2 [U % 4294967296, U / 4294967296] rfl hl _ (w.heap.size + 1) ?_ (by simp) (by simp)).mono ?_
  · exact Rd.lit w #[.int .u32 ((U : Int) % 4294967296), .int .u32 ((U : Int) / 4294967296)] 69 2 1 rfl
  rintro e w1 ⟨rfl, ⟨m, rfl⟩, hr⟩
  rw [hv] at hr ⊢
  have h2 : (wds U).length ≤ 2 := wds_len (k := 2) (by omega)
  go_wp2_with fail
  go_ret
  exact ⟨_, 2, rfl, hr.more (by simp), h2, fun b off e => by injection e with e; injection e with e; omega, dr (al _) m⟩
theorem give_any (g : Nat) (neg : Bool) (A : Option Addr) (n c : Nat) (x y : Value) (w : World) (h0 : w.cell? ⟨g, 0, none⟩ = some x) (h1 : w.cell? ⟨g, 1, none⟩ = some y) (f0 : w.frozen? ⟨g, 0, none⟩ = false) (f1 : w.frozen? ⟨g, 1, none⟩ = false) :
    Calls Tryd.prog 30 #[.pointer (some ⟨g, 0, none⟩), .bool neg, .slice A n c] w fun e w' => e = .returned (.pointer (some ⟨g, 0, none⟩)) ∧ w' = (w.setCell ⟨g, 1, none⟩ (.slice A n c)).setCell ⟨g, 0, none⟩ (.bool (neg && decide (0 < n))) := by
  by_cases hn : 0 < n <;> cases neg <;>
  (go_enter Tryd.func30, Tryd.ntmps30
   go_wp2_with fail
   go_ret
   exact ⟨rfl, by simp [hn]⟩)
/-- A whole number of any size, behind a pointer: its sign and its words, in blocks below B. -/
def Big (w : World) (B g : Nat) (z : Int) : Prop :=
  ∃ A c, w.cell? ⟨g, 0, none⟩ = some (.bool (decide (z < 0))) ∧ w.cell? ⟨g, 1, none⟩ = some (.slice A (wds z.natAbs).length c) ∧ Rd w B 1 A (wds z.natAbs).length (u32s (wds z.natAbs)) ∧ (wds z.natAbs).length ≤ c ∧ (∀ b off, A = some ⟨b, off, none⟩ → b ≠ g) ∧ w.frozen? ⟨g, 0, none⟩ = false ∧ w.frozen? ⟨g, 1, none⟩ = false ∧ g < B
theorem Big.keep {w w' : World} {B g : Nat} {z : Int} (h : Big w B g z) (hk : ∀ k, k < B → w'.heap[k]? = w.heap[k]?) : Big w' B g z := by
  obtain ⟨A, c, h0, h1, hr, hl, hA, f0, f1, hg⟩ := h
  exact ⟨A, c, (World.cell?_of_block (a := ⟨g, 0, none⟩) (hk g hg)).trans h0, (World.cell?_of_block (a := ⟨g, 1, none⟩) (hk g hg)).trans h1, hr.keep fun p hp => World.cell?_of_block (hk p.block hp), hl, hA, (World.frozen?_of_block (a := ⟨g, 0, none⟩) (hk g hg)).trans f0, (World.frozen?_of_block (a := ⟨g, 1, none⟩) (hk g hg)).trans f1, hg⟩
theorem Big.more {w : World} {B B' g : Nat} {z : Int} (h : Big w B g z) (hB : B ≤ B') : Big w B' g z := by
  obtain ⟨A, c, h0, h1, hr, hl, hA, f0, f1, hg⟩ := h
  exact ⟨A, c, h0, h1, hr.more hB, hl, hA, f0, f1, Nat.lt_of_lt_of_le hg hB⟩
theorem Big.into {w w' : World} {B g : Nat} {z : Int} (h : Big w B g z) (hB : B ≤ w.heap.size) (hb : Below w.heap.size w w') : Big w' w'.heap.size g z :=
  (h.keep fun k hk => hb.block k (Nat.lt_of_lt_of_le hk hB)).more (Nat.le_trans hB hb.size)
/-- A number of another block stays while this one is given. -/
theorem Big.grown {w w' : World} {B g g' : Nat} {z : Int} (h : Big w B g z) (hB : B ≤ w.heap.size) (hg : w.grownBy w' (some g')) (hne : g ≠ g') (hA : ∀ A c n, w.cell? ⟨g, 1, none⟩ = some (.slice A n c) → ∀ b off, A = some ⟨b, off, none⟩ → b ≠ g') : Big w' w'.heap.size g z := by
  obtain ⟨A, c, h0, h1, hr, hl, hA1, f0, f1, hlt⟩ := h
  have hk : w'.heap[g]? = w.heap[g]? := hg.block g (Nat.lt_of_lt_of_le hlt hB) (by intro e; injection e with e; exact hne e)
  refine ⟨A, c, (World.cell?_of_block (a := ⟨g, 0, none⟩) hk).trans h0, (World.cell?_of_block (a := ⟨g, 1, none⟩) hk).trans h1, ⟨hr.1, fun hn => ?_⟩, hl, hA1, (World.frozen?_of_block (a := ⟨g, 0, none⟩) hk).trans f0, (World.frozen?_of_block (a := ⟨g, 1, none⟩) hk).trans f1, Nat.lt_of_lt_of_le hlt (Nat.le_trans hB hg.size)⟩
  obtain ⟨b, off, rfl, hb, hc⟩ := hr.2 hn
  have hne' := hA _ _ _ h1 b off rfl
  have hk' : w'.heap[b]? = w.heap[b]? := hg.block b (Nat.lt_of_lt_of_le hb hB) (by intro e; injection e with e; exact hne' e)
  exact ⟨b, off, rfl, Nat.lt_of_lt_of_le hb (Nat.le_trans hB hg.size), fun j u hu => (World.cell?_of_block (a := ⟨b, off + j, none⟩) hk').trans (hc j u hu)⟩
theorem gb_set (w : World) (a : Addr) (u : Value) : w.grownBy (w.setCell a u) (some a.block) :=
  ⟨rfl, rfl, rfl, by simp [World.setCell], fun k _ hk => Below.heap_setCell _ _ _ _ (fun e => hk (by rw [e]))⟩
theorem gb_trans {a b c : World} {r : Option Nat} (h : a.grownBy b r) (k : b.grownBy c r) : a.grownBy c r :=
  ⟨k.os.trans h.os, k.tape.trans h.tape, k.output.trans h.output, Nat.le_trans h.size k.size, fun i hi hr => (k.block i (Nat.lt_of_lt_of_le hi h.size) hr).trans (h.block i hi hr)⟩
theorem gb_below {a b : World} (r : Option Nat) (h : Below a.heap.size a b) : a.grownBy b r := ⟨h.os, h.tape, h.output, h.size, fun k hk _ => h.block k hk⟩
theorem below_gb {B : Nat} {W a b : World} {g : Nat} (h : Below B W a) (hB : B ≤ a.heap.size) (hg : B ≤ g) (k : a.grownBy b (some g)) : Below B W b := h.grown k hB fun q e => by injection e with e; omega
/-- 'give': the Int holds the number. -/
theorem give_big (g : Nat) (neg : Bool) (A : Option Addr) (N c : Nat) (x y : Value) (w : World) (h0 : w.cell? ⟨g, 0, none⟩ = some x) (h1 : w.cell? ⟨g, 1, none⟩ = some y) (f0 : w.frozen? ⟨g, 0, none⟩ = false) (f1 : w.frozen? ⟨g, 1, none⟩ = false)
    (hr : Rd w w.heap.size 1 A (wds N).length (u32s (wds N))) (hA : ∀ b off, A = some ⟨b, off, none⟩ → b ≠ g) (hl : (wds N).length ≤ c) :
    Calls Tryd.prog 30 #[.pointer (some ⟨g, 0, none⟩), .bool neg, .slice A (wds N).length c] w fun e w' => e = .returned (.pointer (some ⟨g, 0, none⟩)) ∧ Big w' w'.heap.size g (if neg then -(N : Int) else N) ∧ w.grownBy w' (some g) := by
  refine (give_any g neg A (wds N).length c x y w h0 h1 f0 f1).mono ?_
  rintro e w' ⟨rfl, rfl⟩
  have hN : (if neg then -(N : Int) else N).natAbs = N := by cases neg <;> simp
  have e : (neg && decide (0 < (wds N).length)) = decide ((if neg then -(N : Int) else N) < 0) := by
    have : (0 < (wds N).length) ↔ N ≠ 0 := by rw [List.length_pos_iff, ne_eq, wds_nil]
    rcases Nat.eq_zero_or_pos N with rfl | h
    · cases neg <;> simp [wds_zero]
    · have h2 : N ≠ 0 := by omega
      cases neg
      · simp
      · simp [this, h2]; omega
  have hg : g < w.heap.size := World.block_lt_of_cell? w _ h0
  refine ⟨rfl, ⟨A, c, ?_, ?_, ?_, by rw [hN]; exact hl, hA, ?_, ?_, by simpa using hg⟩, gb_trans (gb_set w ⟨g, 1, none⟩ _) (gb_set _ ⟨g, 0, none⟩ _)⟩
  · rw [e]
    exact World.cell?_setCell_same _ _ _ (by rw [World.cell?_setCell_other _ _ _ _ (by simp)]; exact h0)
  · rw [World.cell?_setCell_other _ _ _ _ (by simp), hN]
    exact World.cell?_setCell_same _ _ _ h1
  · rw [hN]
    refine ⟨hr.1, fun hn => ?_⟩
    obtain ⟨b, off, rfl, hb, hc⟩ := hr.2 hn
    have hne := hA b off rfl
    exact ⟨b, off, rfl, by simpa using hb, fun j u hu => by
      rw [World.cell?_setCell_other _ _ _ _ (fun e => hne (by injection e with e1; exact e1.symm)), World.cell?_setCell_other _ _ _ _ (fun e => hne (by injection e with e1; exact e1.symm))]
      exact hc j u hu⟩
  · simpa using f0
  · simpa using f1
/-- A new Int that is n. -/
def BigPost (n : Int) (w : World) (e : Ending) (w' : World) : Prop :=
  ∃ g, e = .returned (.pointer (some ⟨g, 0, none⟩)) ∧ w.heap.size ≤ g ∧ Big w' w'.heap.size g n ∧ Below w.heap.size w w'
end Go.Proofs.YtgjhjojbaieeaaaDoor
