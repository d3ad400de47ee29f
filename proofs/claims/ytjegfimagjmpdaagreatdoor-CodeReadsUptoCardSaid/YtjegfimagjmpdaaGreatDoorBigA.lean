/- BigA: Big1 Bits Small BigAdd BigMul SetStr BigLen BigInt64 Rev DecimalA ReadNA. Conditions: each text's own. -/
import Derived.Test.YtjegfimagjmpdaaGreatDoorBase
import Derived.Deep.QuietTactic
import Derived.BigQuiet
import Derived.Handy
import Derived.Laws.BitsAllLaws
import Derived.Laws.BitsLemmas
import Derived.IntWalk
import Derived.Test.YtjegfimagjmpdaaGreatDoorTx
section
/- Numbers of any size, in memory: their words cut, made, given to an Int. Conditions: none. -/
set_option maxRecDepth 20000
namespace Go.Proofs.YtjegfimagjmpdaaGreatDoor
open Go.ChangeShapes Go.WideShapes Go.ChangeAt Go.RowKit
/-- Words, as values. -/
def u32s (l : List Nat) : List Value := l.map fun (d : Nat) => Value.int .u32 (d : Int)
@[simp] theorem u32s_len (l : List Nat) : (u32s l).length = l.length := by simp [u32s]
theorem u32s_one (l : List Nat) : ∀ u ∈ u32s l, u.oneCell' = true := by
  intro u hu
  obtain ⟨_, _, rfl⟩ := List.mem_map.1 hu
  rfl
theorem u32s_get (l : List Nat) (i : Nat) (h : i < l.length) : (u32s l)[i]? = some (.int .u32 ((l.getD i 0 : Nat) : Int)) := by
  simp [u32s, List.getD, List.getElem?_eq_getElem h]
theorem cell32 {w : World} {B n : Nat} {A : Option Addr} {l : List Nat} (h : Rd w B 1 A n (u32s l)) {k : Nat} (hk : k < n) :
    ∃ b off, A = some ⟨b, off, none⟩ ∧ w.cell? ⟨b, off + k, none⟩ = some (.int .u32 ((l.getD k 0 : Nat) : Int)) := by
  obtain ⟨b, off, u, e, _, hu, hc⟩ := h.at1 hk
  have hl : k < l.length := by have := h.1; simp at this; omega
  rw [u32s_get l k hl] at hu
  injection hu with hu
  subst hu
  exact ⟨b, off, e, hc⟩
theorem Rd.take {w : World} {B n m : Nat} {A : Option Addr} {xs : List Value} (h : Rd w B 1 A n xs) (hm : m ≤ n) : Rd w B 1 A m (xs.take m) := by
  have hl := h.1
  simp at hl
  refine ⟨by simp; omega, fun h0 => ?_⟩
  obtain ⟨b, off, e, hb, hc⟩ := h.2 (by omega)
  refine ⟨b, off, e, hb, fun j u hu => hc j u ?_⟩
  rw [List.getElem?_take] at hu
  split at hu
  · exact hu
  · cases hu
theorem u32s_take (l : List Nat) (m : Nat) : (u32s l).take m = u32s (l.take m) := by simp [u32s, List.map_take]
theorem trim_any (A : Option Addr) (n c : Nat) (l : List Nat) (hnl : n = l.length) (hl : ∀ d ∈ l, d < 4294967296) (w : World) (B : Nat) (h : Rd w B 1 A n (u32s l)) (hn : n ≤ 140737488355328) (hlc : n ≤ c) :
    Calls Tryz.prog 77 #[.slice A n c] w fun e w' => e = .returned (.slice A (wds (wv l)).length c) ∧ (∃ m, w' = w.drewN m) ∧ Rd w' B 1 A (wds (wv l)).length (u32s (wds (wv l))) := by
  subst hnl
  go_enter Tryz.func77, Tryz.ntmps77
  go_wp2_with fail
  go_loopw [3] (fun i wr => ∃ k m : Nat, k ≤ l.length ∧ i = .int .i64 k ∧ Hid (∀ d ∈ l.drop k, d = 0) ∧ wr = w.drewN m) (fun i _ => (intOf i).toNat)
  case atStart => exact ⟨l.length, 0, Nat.le_refl _, rfl, Lib.hid (by simp), rfl⟩
  case round =>
    obtain ⟨k, m, hk, rfl, HZ, rfl⟩ := hrel
    have fin : (k = 0 ∨ ∃ j, k = j + 1 ∧ l.getD j 0 ≠ 0) → l.take k = wds (wv l) := fun hh =>
      wds_take hl hk HZ.out (fun j hj => by
        rcases hh with h0 | ⟨j', h1, h2⟩
        · omega
        · obtain rfl : j = j' := by omega
          exact h2)
    have HF := Lib.hid fin
    clear fin
    rcases k with _ | j
    · have e := HF.out (.inl rfl)
      have e2 := congrArg List.length e
      simp at e2
      have HE := Lib.hid (And.intro e.symm e2.symm)
      clear e e2 HF
      go_wp2
      go_ret
      exact ⟨by rw [HE.out.2]; rfl, ⟨m, rfl⟩, by rw [HE.out.2, HE.out.1]; exact Rd.nil⟩
    · obtain ⟨b, off, rfl, hc⟩ := cell32 h (show j < l.length by omega)
      have HG := Lib.hid (show l.drop j = l.getD j 0 :: l.drop (j + 1) by
        rw [List.drop_eq_getElem_cons (show j < l.length by omega)]; simp [List.getD, List.getElem?_eq_getElem (show j < l.length by omega)])
      generalize hxx : l.getD j 0 = x at *
      have HX := Lib.hid hxx
      clear hxx
      by_cases hx : x = 0
      · subst hx
        go_wp2
        go_roundw
        case rel =>
          refine ⟨j, m, by omega, rfl, Lib.hid ?_, rfl⟩
          rw [HG.out]
          intro d hd
          rcases List.mem_cons.1 hd with rfl | hd
          · rfl
          · exact HZ.out d hd
        case measure => simp [intOf]
      · have e := HF.out (.inr ⟨j, rfl, by rw [HX.out]; exact hx⟩)
        have e2 := congrArg List.length e
        rw [List.length_take, Nat.min_eq_left (by omega)] at e2
        have HE := Lib.hid (And.intro e e2)
        clear e e2 HF
        go_wp2
        go_ret
        refine ⟨by rw [← HE.out.2]; rfl, ⟨m, rfl⟩, ?_⟩
        rw [← HE.out.2, ← HE.out.1, ← u32s_take]
        exact (h.take (by omega)).drewN m
/-- Words, in memory that is new. -/
def WPost (N : Nat) (w : World) (e : Ending) (w' : World) : Prop :=
  ∃ A c, e = .returned (.slice A (wds N).length c) ∧ Rd w' w'.heap.size 1 A (wds N).length (u32s (wds N)) ∧ (wds N).length ≤ c ∧ (∀ b off, A = some ⟨b, off, none⟩ → w.heap.size ≤ b) ∧ Below w.heap.size w w'
theorem wds2 {U : Nat} (h : U < 18446744073709551616) : wv [U % 4294967296, U / 4294967296] = U ∧ ∀ d ∈ [U % 4294967296, U / 4294967296], d < 4294967296 := by
  refine ⟨by simp [wv]; omega, ?_⟩
  intro d hd
  simp at hd
  rcases hd with rfl | rfl <;> omega
theorem words_any (z : Int) (U : Nat) (hz : z = (U : Int)) (hU : U < 18446744073709551616) (w : World) : Calls Tryz.prog 63 #[.int .u64 z] w (WPost U w) := by
  subst hz
  obtain ⟨hv, hl⟩ := wds2 hU
  go_enter Tryz.func63, Tryz.ntmps63
  go_wp2_with fail
  refine (trim_any (some ⟨w.heap.size, 0, none⟩) 2 2 [U % 4294967296, U / 4294967296] rfl hl _ (w.heap.size + 1) ?_ (by simp) (by simp)).mono ?_
  · exact Rd.lit w #[.int .u32 ((U : Int) % 4294967296), .int .u32 ((U : Int) / 4294967296)] 115 2 1 rfl
  rintro e w1 ⟨rfl, ⟨m, rfl⟩, hr⟩
  rw [hv] at hr ⊢
  have h2 : (wds U).length ≤ 2 := wds_len (k := 2) (by omega)
  go_wp2_with fail
  go_ret
  exact ⟨_, 2, rfl, hr.more (by simp), h2, fun b off e => by injection e with e; injection e with e; omega, dr (al _) m⟩
theorem give_any (g : Nat) (neg : Bool) (A : Option Addr) (n c : Nat) (x y : Value) (w : World) (h0 : w.cell? ⟨g, 0, none⟩ = some x) (h1 : w.cell? ⟨g, 1, none⟩ = some y) (f0 : w.frozen? ⟨g, 0, none⟩ = false) (f1 : w.frozen? ⟨g, 1, none⟩ = false) :
    Calls Tryz.prog 64 #[.pointer (some ⟨g, 0, none⟩), .bool neg, .slice A n c] w fun e w' => e = .returned (.pointer (some ⟨g, 0, none⟩)) ∧ w' = (w.setCell ⟨g, 1, none⟩ (.slice A n c)).setCell ⟨g, 0, none⟩ (.bool (neg && decide (0 < n))) := by
  by_cases hn : 0 < n <;> cases neg <;>
  (go_enter Tryz.func64, Tryz.ntmps64
   go_wp2_with fail
   go_ret
   exact ⟨rfl, by simp [hn]⟩)
/-- A whole number of any size, behind a pointer: its sign and its words, in blocks below B. -/
def Big (w : World) (B g : Nat) (z : Int) : Prop :=
  ∃ A c, w.cell? ⟨g, 0, none⟩ = some (.bool (decide (z < 0))) ∧ w.cell? ⟨g, 1, none⟩ = some (.slice A (wds z.natAbs).length c) ∧ Rd w B 1 A (wds z.natAbs).length (u32s (wds z.natAbs)) ∧ (wds z.natAbs).length ≤ c ∧ (∀ b off, A = some ⟨b, off, none⟩ → b ≠ g) ∧ w.frozen? ⟨g, 0, none⟩ = false ∧ w.frozen? ⟨g, 1, none⟩ = false ∧ g < B
theorem Big.keep {w w' : World} {B g : Nat} {z : Int} (h : Big w B g z) (hk : ∀ k, k < B → w'.heap[k]? = w.heap[k]?) : Big w' B g z := by
  obtain ⟨A, c, h0, h1, hr, hl, hA, f0, f1, hg⟩ := h
  exact ⟨A, c, (World.cell?_of_block (a := ⟨g, 0, none⟩) (hk g hg)).trans h0, (World.cell?_of_block (a := ⟨g, 1, none⟩) (hk g hg)).trans h1, hr.keep fun p hp => World.cell?_of_block (hk p.block hp), hl, hA, (World.frozen?_of_block (a := ⟨g, 0, none⟩) (hk g hg)).trans f0, (World.frozen?_of_block (a := ⟨g, 1, none⟩) (hk g hg)).trans f1, hg⟩
theorem Big.more {w : World} {B B' g : Nat} {z : Int} (h : Big w B g z) (hB : B ≤ B') : Big w B' g z := by
  obtain ⟨A, c, h0, h1, hr, hl, hA, f0, f1, hg⟩ := h
  exact ⟨A, c, h0, h1, hr.more hB, hl, hA, f0, f1, Nat.lt_of_lt_of_le hg hB⟩
theorem Big.into {w w' : World} {B g : Nat} {z : Int} (h : Big w B g z) (hB : B ≤ w.heap.size) (hb : Below w.heap.size w w') : Big w' w'.heap.size g z :=
  (h.keep fun k hk => hb.block k (Nat.lt_of_lt_of_le hk hB)).more (Nat.le_trans hB hb.size)
/-- A number of another block stays while this one is given. -/
theorem Big.grown {w w' : World} {B g g' : Nat} {z : Int} (h : Big w B g z) (hB : B ≤ w.heap.size) (hg : w.grownBy w' (some g')) (hne : g ≠ g') (hA : ∀ A c n, w.cell? ⟨g, 1, none⟩ = some (.slice A n c) → ∀ b off, A = some ⟨b, off, none⟩ → b ≠ g') : Big w' w'.heap.size g z := by
  obtain ⟨A, c, h0, h1, hr, hl, hA1, f0, f1, hlt⟩ := h
  have hk : w'.heap[g]? = w.heap[g]? := hg.block g (Nat.lt_of_lt_of_le hlt hB) (by intro e; injection e with e; exact hne e)
  refine ⟨A, c, (World.cell?_of_block (a := ⟨g, 0, none⟩) hk).trans h0, (World.cell?_of_block (a := ⟨g, 1, none⟩) hk).trans h1, ⟨hr.1, fun hn => ?_⟩, hl, hA1, (World.frozen?_of_block (a := ⟨g, 0, none⟩) hk).trans f0, (World.frozen?_of_block (a := ⟨g, 1, none⟩) hk).trans f1, Nat.lt_of_lt_of_le hlt (Nat.le_trans hB hg.size)⟩
  obtain ⟨b, off, rfl, hb, hc⟩ := hr.2 hn
  have hne' := hA _ _ _ h1 b off rfl
  have hk' : w'.heap[b]? = w.heap[b]? := hg.block b (Nat.lt_of_lt_of_le hb hB) (by intro e; injection e with e; exact hne' e)
  exact ⟨b, off, rfl, Nat.lt_of_lt_of_le hb (Nat.le_trans hB hg.size), fun j u hu => (World.cell?_of_block (a := ⟨b, off + j, none⟩) hk').trans (hc j u hu)⟩
theorem gb_set (w : World) (a : Addr) (u : Value) : w.grownBy (w.setCell a u) (some a.block) :=
  ⟨rfl, rfl, rfl, by simp [World.setCell], fun k _ hk => Below.heap_setCell _ _ _ _ (fun e => hk (by rw [e]))⟩
theorem gb_trans {a b c : World} {r : Option Nat} (h : a.grownBy b r) (k : b.grownBy c r) : a.grownBy c r :=
  ⟨k.os.trans h.os, k.tape.trans h.tape, k.output.trans h.output, Nat.le_trans h.size k.size, fun i hi hr => (k.block i (Nat.lt_of_lt_of_le hi h.size) hr).trans (h.block i hi hr)⟩
theorem gb_below {a b : World} (r : Option Nat) (h : Below a.heap.size a b) : a.grownBy b r := ⟨h.os, h.tape, h.output, h.size, fun k hk _ => h.block k hk⟩
theorem below_gb {B : Nat} {W a b : World} {g : Nat} (h : Below B W a) (hB : B ≤ a.heap.size) (hg : B ≤ g) (k : a.grownBy b (some g)) : Below B W b := h.grown k hB fun q e => by injection e with e; omega
/-- 'give': the Int holds the number. -/
theorem give_big (g : Nat) (neg : Bool) (A : Option Addr) (N c : Nat) (x y : Value) (w : World) (h0 : w.cell? ⟨g, 0, none⟩ = some x) (h1 : w.cell? ⟨g, 1, none⟩ = some y) (f0 : w.frozen? ⟨g, 0, none⟩ = false) (f1 : w.frozen? ⟨g, 1, none⟩ = false)
    (hr : Rd w w.heap.size 1 A (wds N).length (u32s (wds N))) (hA : ∀ b off, A = some ⟨b, off, none⟩ → b ≠ g) (hl : (wds N).length ≤ c) :
    Calls Tryz.prog 64 #[.pointer (some ⟨g, 0, none⟩), .bool neg, .slice A (wds N).length c] w fun e w' => e = .returned (.pointer (some ⟨g, 0, none⟩)) ∧ Big w' w'.heap.size g (if neg then -(N : Int) else N) ∧ w.grownBy w' (some g) := by
  refine (give_any g neg A (wds N).length c x y w h0 h1 f0 f1).mono ?_
  rintro e w' ⟨rfl, rfl⟩
  have hN : (if neg then -(N : Int) else N).natAbs = N := by cases neg <;> simp
  have e : (neg && decide (0 < (wds N).length)) = decide ((if neg then -(N : Int) else N) < 0) := by
    have : (0 < (wds N).length) ↔ N ≠ 0 := by rw [List.length_pos_iff, ne_eq, wds_nil]
    rcases Nat.eq_zero_or_pos N with rfl | h
    · cases neg <;> simp [wds_zero]
    · have h2 : N ≠ 0 := by omega
      cases neg
      · simp
      · simp [this, h2]; omega
  have hg : g < w.heap.size := World.block_lt_of_cell? w _ h0
  refine ⟨rfl, ⟨A, c, ?_, ?_, ?_, by rw [hN]; exact hl, hA, ?_, ?_, by simpa using hg⟩, gb_trans (gb_set w ⟨g, 1, none⟩ _) (gb_set _ ⟨g, 0, none⟩ _)⟩
  · rw [e]
    exact World.cell?_setCell_same _ _ _ (by rw [World.cell?_setCell_other _ _ _ _ (by simp)]; exact h0)
  · rw [World.cell?_setCell_other _ _ _ _ (by simp), hN]
    exact World.cell?_setCell_same _ _ _ h1
  · rw [hN]
    refine ⟨hr.1, fun hn => ?_⟩
    obtain ⟨b, off, rfl, hb, hc⟩ := hr.2 hn
    have hne := hA b off rfl
    exact ⟨b, off, rfl, by simpa using hb, fun j u hu => by
      rw [World.cell?_setCell_other _ _ _ _ (fun e => hne (by injection e with e1; exact e1.symm)), World.cell?_setCell_other _ _ _ _ (fun e => hne (by injection e with e1; exact e1.symm))]
      exact hc j u hu⟩
  · simpa using f0
  · simpa using f1
/-- A new Int that is n. -/
def BigPost (n : Int) (w : World) (e : Ending) (w' : World) : Prop :=
  ∃ g, e = .returned (.pointer (some ⟨g, 0, none⟩)) ∧ w.heap.size ≤ g ∧ Big w' w'.heap.size g n ∧ Below w.heap.size w w'
end Go.Proofs.YtjegfimagjmpdaaGreatDoor
end
section
/- Bits of 64-bit words, as numbers. Conditions: none. -/
namespace Go.Proofs.YtjegfimagjmpdaaGreatDoor
open Go.RowKit
theorem wrapU (q : Int) (h0 : 0 ≤ q) (h : q < 18446744073709551616) : IntKind.u64.wrap q = q := by
  rw [IntKind.wrap_u64]; omega
theorem ofIntU (q : Nat) (h : q < 18446744073709551616) : (BitVec.ofInt 64 (q : Int)).toNat = q := by
  rw [BitVec.ofInt_natCast, BitVec.toNat_ofNat]; exact Nat.mod_eq_of_lt (by omega)
theorem orU (a b : Nat) (ha : a < 18446744073709551616) (hb : b < 18446744073709551616) (h : a ||| b < 18446744073709551616) : bits .or .u64 (a : Int) (b : Int) = ((a ||| b : Nat) : Int) := by
  show IntKind.u64.wrap ((BitVec.ofInt 64 (a : Int) ||| BitVec.ofInt 64 (b : Int)).toNat : Int) = _
  rw [BitVec.toNat_or, ofIntU a ha, ofIntU b hb, wrapU _ (by omega) (by omega)]
theorem or32 (R x : Nat) (hR : R < 4294967296) (hx : x < 4294967296) : bits .or .u64 ((R : Int) * 4294967296) (x : Int) = ((R * 4294967296 + x : Nat) : Int) := by
  have e : R * 4294967296 ||| x = R * 4294967296 + x := by
    rw [Nat.or_comm, or_add (s := 32) (by simpa using hx) ⟨R, by rw [Nat.mul_comm]⟩]
    omega
  have := orU (R * 4294967296) x (by omega) (by omega) (by rw [e]; omega)
  rw [e] at this
  rw [← this]
  congr 1
end Go.Proofs.YtjegfimagjmpdaaGreatDoor
end
section
/- Numbers of any size: copied; divided by one word. Conditions: none. -/
set_option maxRecDepth 20000
namespace Go.Proofs.YtjegfimagjmpdaaGreatDoor
open Go.ChangeShapes Go.WideShapes Go.ChangeAt Go.RowKit
theorem info_u32 : (Tryz.prog.info? 115).map (fun i => (i.zero, i.size, i.bytes)) = some (some (.int .u32 0), 1, 4) := by kernel_rfl
theorem made_one (v : Value) (n : Nat) : (madeCells #[v] n).toList = List.replicate n v := by
  apply List.ext_getElem <;> simp [madeCells, Nat.mod_one]
theorem made_u32s (n : Nat) : (madeCells (Value.cells (.int .u32 0)) (n * 1)).toList = u32s (List.replicate n 0) := by
  rw [show Value.cells (.int .u32 0) = #[Value.int .u32 0] from rfl, made_one, Nat.mul_one]
  simp [u32s]
/-- What the loop of 'small' keeps. -/
def Sm (B : Nat) (W : World) (t0 : TypeId) (l : List Nat) (d g : Nat) (r i : Value) (wr : World) : Prop :=
  ∃ (z : Int) (t : List Nat), i = .int .i64 z ∧ -1 ≤ z ∧ z < l.length ∧ r = .int .u64 ((wv (l.drop (z + 1).toNat) % d : Nat) : Int) ∧ (∀ x ∈ t, x < 4294967296) ∧ wv t = wv (l.drop (z + 1).toNat) / d ∧ t.length + (z + 1).toNat = l.length ∧
    wr.ownsRow B t0 1 (.slice (some ⟨g, 0, none⟩) l.length l.length) l.length (u32s (List.replicate (z + 1).toNat 0 ++ t)) ∧ Below B W wr
theorem Sm.start {W w1 : World} {t0 : TypeId} {l : List Nat} {d : Nat} {z : Int} (hz : z = (l.length : Int) - 1) (hown : w1.ownsRow W.heap.size t0 1 (.slice (some ⟨W.heap.size, 0, none⟩) l.length l.length) l.length (u32s (List.replicate l.length 0))) (hg : W.grownBy w1 none) :
    Sm W.heap.size W t0 l d W.heap.size (.int .u64 0) (.int .i64 z) w1 := by
  have e : ((l.length : Int) - 1 + 1).toNat = l.length := by omega
  subst hz
  refine ⟨_, [], rfl, by omega, by omega, ?_, by simp, ?_, by rw [e]; simp, by rw [e]; simpa using hown, (Below.refl _ _).grown hg (Nat.le_refl _) (by simp)⟩
  · rw [e]; simp [wv]
  · rw [e]; simp [wv]
theorem u32s_set (l : List Nat) (j x : Nat) : (u32s l).set j (.int .u32 (x : Int)) = u32s (l.set j x) := by simp [u32s, List.map_set]
theorem rep_set (j x : Nat) (t : List Nat) : (List.replicate (j + 1) 0 ++ t).set j x = List.replicate j 0 ++ x :: t := by
  rw [List.replicate_succ', List.append_assoc, List.set_append_right _ _ (by simp)]
  simp
theorem idiv_lt (Y d : Nat) (h : Y / d < 4294967296) : (Y : Int) / (d : Int) < 4294967296 := by rw [← Int.natCast_ediv]; omega
theorem idiv_ge (Y d : Nat) : 0 ≤ (Y : Int) / (d : Int) := by rw [← Int.natCast_ediv]; exact Int.natCast_nonneg _
theorem mod_fit (N d : Nat) (hd : 0 < d) (hd2 : d < 4294967296) : (N : Int) % (d : Int) % 4294967296 = ((N % d : Nat) : Int) := by
  have h := Nat.mod_lt N hd
  rw [← Int.natCast_emod]
  omega
theorem Sm.step {B : Nat} {W wn : World} {t0 : TypeId} {l t : List Nat} {d g j Y : Nat} (hj : j < l.length) (ht3 : t.length + (j + 1) = l.length) (ht1 : ∀ x ∈ t, x < 4294967296) (ht2 : wv t = wv (l.drop (j + 1)) / d) (hY : Y / d < 4294967296)
    (hs : wv (l.drop j) / d = Y / d + 4294967296 * (wv (l.drop (j + 1)) / d) ∧ wv (l.drop j) % d = Y % d)
    (hown : wn.ownsRow B t0 1 (.slice (some ⟨g, 0, none⟩) l.length l.length) l.length ((u32s (List.replicate (j + 1) 0 ++ t)).set j (.int .u32 ((Y : Int) / d)))) (hb : Below B W wn) :
    Sm B W t0 l d g (.int .u64 ((Y : Int) % d)) (.int .i64 ((j : Int) - 1)) wn := by
  have e : ((j : Int) - 1 + 1).toNat = j := by omega
  refine ⟨_, Y / d :: t, rfl, by omega, by omega, ?_, ?_, ?_, by simp; omega, ?_, hb⟩
  · rw [e, hs.2]; simp
  · intro x hx
    rcases List.mem_cons.1 hx with rfl | hx
    · exact hY
    · exact ht1 x hx
  · rw [e, hs.1, wv, ht2]
  · rw [e, ← rep_set, ← u32s_set]
    simpa using hown
/-- Words that the call owns. -/
theorem twin_any (A : Option Addr) (n c : Nat) (l : List Nat) (w : World) (h : Rd w w.heap.size 1 A n (u32s l)) (hn : n ≤ 1000000) :
    Calls Tryz.prog 78 #[.slice A n c] w fun e w' => ∃ A' c', e = .returned (.slice A' n c') ∧ w'.ownsRow w.heap.size 115 1 (.slice A' n c') n (u32s l) ∧ Below w.heap.size w w' := by
  obtain ⟨i0, hi, hz0, hz1, hz2⟩ := info_parts info_u32
  go_enter Tryz.func78, Tryz.ntmps78
  go_wp2_with (at_builtin; refine wpList_append_new _ rfl _ _ 87 rfl 115 i0 _ 1 4 Tryz.underlying87 hi hz0 hz1 hz2 rfl (by omega) rfl w.heap.size A n c (u32s l) rfl h (u32s_one _) (by omega) (by unfold maxLen; omega) ?_; intro A1 cp w1 hown hb)
  go_ret
  exact ⟨A1, cp, rfl, hown, hb⟩
theorem small_any (A : Option Addr) (c : Nat) (l : List Nat) (hl : ∀ d ∈ l, d < 4294967296) (d : Nat) (hd : 0 < d) (hd2 : d < 4294967296) (w : World) (h : Rd w w.heap.size 1 A l.length (u32s l)) (hn : l.length ≤ 1000000) :
    Calls Tryz.prog 79 #[.slice A l.length c, .int .u32 (d : Int)] w fun e w' => ∃ A' c', e = .returned (.tuple #[.slice A' (wds (wv l / d)).length c', .int .u32 ((wv l % d : Nat) : Int)]) ∧ Rd w' w'.heap.size 1 A' (wds (wv l / d)).length (u32s (wds (wv l / d))) ∧ (wds (wv l / d)).length ≤ c' ∧ (∀ b off, A' = some ⟨b, off, none⟩ → w.heap.size ≤ b) ∧ Below w.heap.size w w' := by
  obtain ⟨i0, hi, hz0, hz1, hz2⟩ := info_parts info_u32
  go_enter Tryz.func79, Tryz.ntmps79
  go_wp2_with (at_make; refine wpList_make_full _ rfl _ _ 87 rfl w.heap.size 115 i0 (.int .u32 0) 1 Tryz.underlying87 hi hz0 hz1 .i64 .i64 _ _ l.length rfl rfl rfl rfl (by rw [hz2]; omega) (by unfold maxLen; omega) (Nat.le_refl _) ?_; intro w1 hown hgrow)
  rw [made_u32s] at hown
  go_loopw [7, 8] (fun r i wr => Sm w.heap.size w 115 l d w.heap.size r i wr) (fun _ i _ => (intOf i + 1).toNat)
  case atStart => exact Sm.start rfl hown hgrow
  case round =>
    obtain ⟨z, t, rfl, hz1', hz2', rfl, ht1, ht2, ht3, hown2, hbel⟩ := hrel
    have HT := Lib.hid (And.intro ht1 ht2)
    clear ht1 ht2 hown hgrow
    by_cases hz : 0 ≤ z
    · obtain ⟨j, rfl⟩ := Int.eq_ofNat_of_zero_le hz
      have e1 : ((j : Int) + 1).toNat = j + 1 := by omega
      rw [e1] at ht3 hown2 HT
      have hj : j < l.length := by omega
      obtain ⟨b, off, rfl, hc⟩ := cell32 ((h.below hbel)) hj
      have hcell := hown2.cellAt j (by omega)
      have hfz := hown2.frozenAt j
      rw [u32s_get _ _ (by simp; omega)] at hcell
      rw [e1]
      have hxl := getD_lt hl j
      have hdrop := wv_drop hj
      have hRd : wv (l.drop (j + 1)) % d < d := Nat.mod_lt _ hd
      have hst := small_step (x := l.getD j 0) (X := wv (l.drop (j + 1))) hd
      have hsl := small_lt (x := l.getD j 0) hd hRd hxl
      rw [← hdrop] at hst
      generalize hR : wv (l.drop (j + 1)) % d = R at *
      generalize hx : l.getD j 0 = x at *
      obtain ⟨Y, hY⟩ : ∃ Y, R * 4294967296 + x = Y := ⟨_, rfl⟩
      have hor := or32 R x (by omega) hxl
      rw [hY] at hor hsl hst
      have hst' := hown2.stored j (.int .u32 ((Y : Int) / d))
      have HA := Lib.hid (And.intro hst hst')
      have hY2 : Y < 18446744073709551616 := by omega
      have hYi := idiv_lt Y d hsl
      have hYj := idiv_ge Y d
      have HQ := Lib.hid hsl
      clear hR hx hY hdrop hst hst' hsl
      go_wp2
      go_roundw
      case rel => exact Sm.step hj ht3 HT.out.1 HT.out.2 HQ.out HA.out.1 HA.out.2.1 (hbel.setCell (Nat.le_refl _) _)
      case measure => simp [intOf]
    · obtain rfl : z = -1 := by omega
      have e0 : (-1 + 1 : Int).toNat = 0 := rfl
      rw [e0] at ht3 hown2 HT
      rw [e0]
      simp only [List.replicate_zero, List.nil_append, List.drop_zero] at hown2 HT ⊢
      have HL := Lib.hid (show t.length = l.length by omega)
      clear ht3
      go_wp2_with fail
      refine (trim_any (some ⟨w.heap.size, 0, none⟩) l.length l.length t HL.out.symm HT.out.1 _ wr.heap.size (Rd.of_own hown2) (by omega) (Nat.le_refl _)).mono ?_
      rintro e w2 ⟨rfl, ⟨m, rfl⟩, hr⟩
      have hl2 : (wds (wv t)).length ≤ l.length := by
        have := wds_len (n := wv t) (k := t.length) (wv_lt HT.out.1)
        rw [HL.out] at this; exact this
      rw [HT.out.2] at hr hl2 ⊢
      have HR := Lib.hid hr
      clear hr
      go_wp2_with fail
      go_returns
      exact ⟨_, l.length, congrArg (fun x : Int => Ending.returned (.tuple #[.slice (some ⟨w.heap.size, 0, none⟩) (wds (wv l / d)).length l.length, .int .u32 x])) (mod_fit (wv l) d hd hd2), HR.out, hl2, fun b off e => by injection e with e; injection e with e; omega, dr hbel m⟩
end Go.Proofs.YtjegfimagjmpdaaGreatDoor
end
section
/- Numbers of any size: added. Conditions: none. -/
set_option maxRecDepth 20000
namespace Go.Proofs.YtjegfimagjmpdaaGreatDoor
open Go.ChangeShapes Go.WideShapes Go.ChangeAt Go.RowKit
/-- What the loop of 'add' keeps. -/
def Ad (B : Nat) (W : World) (t0 : TypeId) (l l2 : List Nat) (g n : Nat) (c i : Value) (wr : World) : Prop :=
  ∃ (k c' : Nat) (t : List Nat), i = .int .i64 (k : Int) ∧ c = .int .u64 (c' : Int) ∧ k ≤ n ∧ t.length = k ∧ c' < 2 ∧ Hid ((∀ x ∈ t, x < 4294967296) ∧ wv t + 4294967296 ^ k * c' = wv (l.take k) + wv (l2.take k)) ∧
    wr.ownsRow B t0 1 (.slice (some ⟨g, 0, none⟩) (n + 1) (n + 1)) (n + 1) (u32s (t ++ List.replicate (n + 1 - k) 0)) ∧ Below B W wr
theorem Ad.start {W w1 : World} {t0 : TypeId} {l l2 : List Nat} {n : Nat} (hown : w1.ownsRow W.heap.size t0 1 (.slice (some ⟨W.heap.size, 0, none⟩) (n + 1) (n + 1)) (n + 1) (u32s (List.replicate (n + 1) 0))) (hg : W.grownBy w1 none) :
    Ad W.heap.size W t0 l l2 W.heap.size n (.int .u64 0) (.int .i64 0) w1 :=
  ⟨0, 0, [], rfl, rfl, by omega, rfl, by omega, Lib.hid ⟨by simp, by simp [wv]⟩, by simpa using hown, (Below.refl _ _).grown hg (Nat.le_refl _) (by simp)⟩
theorem set_mid (t : List Nat) (m x : Nat) (k : Nat) (hk : t.length = k) : (t ++ List.replicate (m + 1) 0).set k x = t ++ [x] ++ List.replicate m 0 := by
  rw [List.replicate_succ, List.set_append_right _ _ (by omega), hk, Nat.sub_self, List.set_cons_zero]; simp
theorem Ad.step {B : Nat} {W wn : World} {t0 : TypeId} {l l2 t : List Nat} {g n k c' Y : Nat} (hk : k < n) (ht : t.length = k) (hT : (∀ x ∈ t, x < 4294967296) ∧ wv t + 4294967296 ^ k * c' = wv (l.take k) + wv (l2.take k)) (hY : Y = c' + l.getD k 0 + l2.getD k 0) (hx : l.getD k 0 < 4294967296) (hy : l2.getD k 0 < 4294967296) (hc : c' < 2)
    (hown : wn.ownsRow B t0 1 (.slice (some ⟨g, 0, none⟩) (n + 1) (n + 1)) (n + 1) ((u32s (t ++ List.replicate (n + 1 - k) 0)).set k (.int .u32 ((Y : Int) % 4294967296)))) (hb : Below B W wn) :
    Ad B W t0 l l2 g n (.int .u64 ((Y : Int) / 4294967296)) (.int .i64 ((k : Int) + 1)) wn := by
  have hs := add_step ht hT.2
  rw [← hY] at hs
  refine ⟨k + 1, Y / 4294967296, t ++ [Y % 4294967296], by go_num, by go_num, hk, by simp [ht], by omega, Lib.hid ⟨?_, hs⟩, ?_, hb⟩
  · intro x hx
    rcases List.mem_append.1 hx with h | h
    · exact hT.1 x h
    · simp at h; subst h; exact Nat.mod_lt _ (by omega)
  · have e : ((Y : Int) % 4294967296) = ((Y % 4294967296 : Nat) : Int) := by omega
    rw [e, u32s_set, show n + 1 - k = (n - k) + 1 by omega, set_mid _ _ _ _ ht] at hown
    rw [show n + 1 - (k + 1) = n - k by omega]
    exact hown
set_option maxHeartbeats 1000000 in
theorem addGe_any (A A2 : Option Addr) (n n2 c c2 : Nat) (l l2 : List Nat) (hnl : n = l.length) (hnl2 : n2 = l2.length) (hle : n2 ≤ n) (hl : ∀ d ∈ l, d < 4294967296) (hl2 : ∀ d ∈ l2, d < 4294967296) (w : World) (h : Rd w w.heap.size 1 A n (u32s l)) (h2 : Rd w w.heap.size 1 A2 n2 (u32s l2)) (hn : n ≤ 1000000) :
    Calls Tryz.prog 61 #[.slice A n c, .slice A2 n2 c2] w (WPost (wv l + wv l2) w) := by
  obtain ⟨i0, hi, hz0, hz1, hz2⟩ := info_parts info_u32
  have HN := Lib.hid (And.intro hnl hnl2)
  have HL := Lib.hid (And.intro hl hl2)
  have HR := Lib.hid (And.intro h h2)
  clear hnl hnl2 hl hl2 h h2
  have hge : decide ((n : Int) < (n2 : Int)) = false := decide_eq_false (by omega)
  go_enter Tryz.func61, Tryz.ntmps61
  go_wp2_with (at_make; refine wpList_make_full _ rfl _ _ 87 rfl w.heap.size 115 i0 (.int .u32 0) 1 Tryz.underlying87 hi hz0 hz1 .i64 .i64 _ _ (n + 1) rfl rfl (by go_num) (by go_num) (by rw [hz2]; omega) (by unfold maxLen; omega) (Nat.le_refl _) ?_; intro w1 hown hgrow)
  rw [made_u32s] at hown
  go_loopw [6, 7] (fun c i wr => Ad w.heap.size w 115 l l2 w.heap.size n c i wr) (fun _ i _ => n - (intOf i).toNat)
  case atStart => exact Ad.start hown hgrow
  case round =>
    obtain ⟨k, c', t, rfl, rfl, hk, ht, hc2, hT, hown2, hbel⟩ := hrel
    clear hown hgrow
    have HT2 := Lib.hid ht
    clear ht
    by_cases hlt : k < n
    · obtain ⟨b, off, rfl, hcell⟩ := cell32 (HR.out.1.below hbel) hlt
      have hcl := hown2.cellAt k (by omega)
      have hfz := hown2.frozenAt k
      rw [u32s_get _ _ (by simp [HT2.out]; omega)] at hcl
      have hx := getD_lt HL.out.1 k
      have hy := getD_lt HL.out.2 k
      by_cases hk2 : k < n2
      · obtain ⟨b2, off2, rfl, hcell2⟩ := cell32 (HR.out.2.below hbel) hk2
        obtain ⟨Y, hY⟩ : ∃ Y, Y = c' + l.getD k 0 + l2.getD k 0 := ⟨_, rfl⟩
        have hst := hown2.stored k (.int .u32 ((Y : Int) % 4294967296))
        have HS := Lib.hid (And.intro hst.1 hY)
        have HXY := Lib.hid (And.intro hx hy)
        generalize hxx : l.getD k 0 = x at *
        generalize hyy : l2.getD k 0 = y at *
        have HXX := Lib.hid (And.intro hxx hyy)
        have eY : (c' : Int) + (x : Int) + (y : Int) = (Y : Int) := by rw [hY]; simp
        clear hst hY hxx hyy
        go_wp2
        go_roundw
        case rel => exact Ad.step hlt HT2.out hT.out (by rw [HXX.out.1, HXX.out.2]; exact HS.out.2) (by rw [HXX.out.1]; exact HXY.out.1) (by rw [HXX.out.2]; exact HXY.out.2) hc2 HS.out.1 (hbel.setCell (Nat.le_refl _) _)
        case measure => simp [intOf]; omega
      · have hy0 : l2.getD k 0 = 0 := by
          rw [List.getD, List.getElem?_eq_none (by have := HN.out.2; omega)]; rfl
        obtain ⟨Y, hY⟩ : ∃ Y, Y = c' + l.getD k 0 := ⟨_, rfl⟩
        have hst := hown2.stored k (.int .u32 ((Y : Int) % 4294967296))
        have HS := Lib.hid (And.intro hst.1 hY)
        have HXY := Lib.hid hx
        have HY0 := Lib.hid hy0
        generalize hxx : l.getD k 0 = x at *
        have HXX := Lib.hid hxx
        have eY : (c' : Int) + (x : Int) = (Y : Int) := by rw [hY]; simp
        clear hst hY hxx hy0 hy
        go_wp2
        go_roundw
        case rel => exact Ad.step hlt HT2.out hT.out (by rw [HXX.out, HY0.out, Nat.add_zero]; exact HS.out.2) (by rw [HXX.out]; exact HXY.out) (by rw [HY0.out]; omega) hc2 HS.out.1 (hbel.setCell (Nat.le_refl _) _)
        case measure => simp [intOf]; omega
    · obtain rfl : k = n := by omega
      have hcl := hown2.cellAt k (by omega)
      have hfz := hown2.frozenAt k
      rw [u32s_get _ _ (by simp [HT2.out])] at hcl
      have hst := (hown2.stored k (.int .u32 (c' : Int))).1
      rw [u32s_set, show k + 1 - k = 0 + 1 by omega, set_mid _ _ _ _ HT2.out] at hst
      have hv : wv (t ++ [c']) = wv l + wv l2 := by
        have := hT.out.2
        rw [List.take_of_length_le (by have := HN.out.1; omega), List.take_of_length_le (by have := HN.out.2; omega)] at this
        rw [wv_snoc, HT2.out]; exact this
      simp only [List.replicate_zero, List.append_nil] at hst
      have HS := Lib.hid hst
      have HV := Lib.hid hv
      have hcm : (c' : Int) % 4294967296 = (c' : Int) := by omega
      clear hst hv
      go_wp2_with fail
      refine (trim_any (some ⟨w.heap.size, 0, none⟩) (k + 1) (k + 1) (t ++ [c']) (by simp [HT2.out]) (by intro d hd; rcases List.mem_append.1 hd with h | h; exact hT.out.1 d h; simp at h; omega) _ _ (Rd.of_own HS.out) (by omega) (Nat.le_refl _)).mono ?_
      rintro e w2 ⟨rfl, ⟨m, rfl⟩, hr⟩
      have HR2 := Lib.hid hr
      clear hr
      go_wp2_with fail
      go_ret
      have hall : ∀ d ∈ t ++ [c'], d < 4294967296 := by intro d hd; rcases List.mem_append.1 hd with h | h; exact hT.out.1 d h; simp at h; omega
      have hlen : (wds (wv (t ++ [c']))).length ≤ k + 1 := wds_len (by have := wv_lt hall; simpa [HT2.out] using this)
      rw [← HV.out]
      exact ⟨_, k + 1, rfl, by simpa using HR2.out, hlen, fun b off e => by injection e with e; injection e with e; omega, dr (hbel.setCell (Nat.le_refl _) _) m⟩
set_option maxHeartbeats 1000000 in
theorem addLt_any (A A2 : Option Addr) (n n2 c c2 : Nat) (l l2 : List Nat) (hnl : n = l.length) (hnl2 : n2 = l2.length) (hle : n2 < n) (hl : ∀ d ∈ l, d < 4294967296) (hl2 : ∀ d ∈ l2, d < 4294967296) (w : World) (h : Rd w w.heap.size 1 A n (u32s l)) (h2 : Rd w w.heap.size 1 A2 n2 (u32s l2)) (hn : n ≤ 1000000) :
    Calls Tryz.prog 61 #[.slice A2 n2 c2, .slice A n c] w (WPost (wv l + wv l2) w) := by
  obtain ⟨i0, hi, hz0, hz1, hz2⟩ := info_parts info_u32
  have HN := Lib.hid (And.intro hnl hnl2)
  have HL := Lib.hid (And.intro hl hl2)
  have HR := Lib.hid (And.intro h h2)
  clear hnl hnl2 hl hl2 h h2
  have hge : decide ((n2 : Int) < (n : Int)) = true := decide_eq_true (by omega)
  go_enter Tryz.func61, Tryz.ntmps61
  go_wp2_with (at_make; refine wpList_make_full _ rfl _ _ 87 rfl w.heap.size 115 i0 (.int .u32 0) 1 Tryz.underlying87 hi hz0 hz1 .i64 .i64 _ _ (n + 1) rfl rfl (by go_num) (by go_num) (by rw [hz2]; omega) (by unfold maxLen; omega) (Nat.le_refl _) ?_; intro w1 hown hgrow)
  rw [made_u32s] at hown
  go_loopw [6, 7] (fun c i wr => Ad w.heap.size w 115 l l2 w.heap.size n c i wr) (fun _ i _ => n - (intOf i).toNat)
  case atStart => exact Ad.start hown hgrow
  case round =>
    obtain ⟨k, c', t, rfl, rfl, hk, ht, hc2, hT, hown2, hbel⟩ := hrel
    clear hown hgrow
    have HT2 := Lib.hid ht
    clear ht
    by_cases hlt : k < n
    · obtain ⟨b, off, rfl, hcell⟩ := cell32 (HR.out.1.below hbel) hlt
      have hcl := hown2.cellAt k (by omega)
      have hfz := hown2.frozenAt k
      rw [u32s_get _ _ (by simp [HT2.out]; omega)] at hcl
      have hx := getD_lt HL.out.1 k
      have hy := getD_lt HL.out.2 k
      by_cases hk2 : k < n2
      · obtain ⟨b2, off2, rfl, hcell2⟩ := cell32 (HR.out.2.below hbel) hk2
        obtain ⟨Y, hY⟩ : ∃ Y, Y = c' + l.getD k 0 + l2.getD k 0 := ⟨_, rfl⟩
        have hst := hown2.stored k (.int .u32 ((Y : Int) % 4294967296))
        have HS := Lib.hid (And.intro hst.1 hY)
        have HXY := Lib.hid (And.intro hx hy)
        generalize hxx : l.getD k 0 = x at *
        generalize hyy : l2.getD k 0 = y at *
        have HXX := Lib.hid (And.intro hxx hyy)
        have eY : (c' : Int) + (x : Int) + (y : Int) = (Y : Int) := by rw [hY]; simp
        clear hst hY hxx hyy
        go_wp2
        go_roundw
        case rel => exact Ad.step hlt HT2.out hT.out (by rw [HXX.out.1, HXX.out.2]; exact HS.out.2) (by rw [HXX.out.1]; exact HXY.out.1) (by rw [HXX.out.2]; exact HXY.out.2) hc2 HS.out.1 (hbel.setCell (Nat.le_refl _) _)
        case measure => simp [intOf]; omega
      · have hy0 : l2.getD k 0 = 0 := by
          rw [List.getD, List.getElem?_eq_none (by have := HN.out.2; omega)]; rfl
        obtain ⟨Y, hY⟩ : ∃ Y, Y = c' + l.getD k 0 := ⟨_, rfl⟩
        have hst := hown2.stored k (.int .u32 ((Y : Int) % 4294967296))
        have HS := Lib.hid (And.intro hst.1 hY)
        have HXY := Lib.hid hx
        have HY0 := Lib.hid hy0
        generalize hxx : l.getD k 0 = x at *
        have HXX := Lib.hid hxx
        have eY : (c' : Int) + (x : Int) = (Y : Int) := by rw [hY]; simp
        clear hst hY hxx hy0 hy
        go_wp2
        go_roundw
        case rel => exact Ad.step hlt HT2.out hT.out (by rw [HXX.out, HY0.out, Nat.add_zero]; exact HS.out.2) (by rw [HXX.out]; exact HXY.out) (by rw [HY0.out]; omega) hc2 HS.out.1 (hbel.setCell (Nat.le_refl _) _)
        case measure => simp [intOf]; omega
    · obtain rfl : k = n := by omega
      have hcl := hown2.cellAt k (by omega)
      have hfz := hown2.frozenAt k
      rw [u32s_get _ _ (by simp [HT2.out])] at hcl
      have hst := (hown2.stored k (.int .u32 (c' : Int))).1
      rw [u32s_set, show k + 1 - k = 0 + 1 by omega, set_mid _ _ _ _ HT2.out] at hst
      have hv : wv (t ++ [c']) = wv l + wv l2 := by
        have := hT.out.2
        rw [List.take_of_length_le (by have := HN.out.1; omega), List.take_of_length_le (by have := HN.out.2; omega)] at this
        rw [wv_snoc, HT2.out]; exact this
      simp only [List.replicate_zero, List.append_nil] at hst
      have HS := Lib.hid hst
      have HV := Lib.hid hv
      have hcm : (c' : Int) % 4294967296 = (c' : Int) := by omega
      clear hst hv
      go_wp2_with fail
      refine (trim_any (some ⟨w.heap.size, 0, none⟩) (k + 1) (k + 1) (t ++ [c']) (by simp [HT2.out]) (by intro d hd; rcases List.mem_append.1 hd with h | h; exact hT.out.1 d h; simp at h; omega) _ _ (Rd.of_own HS.out) (by omega) (Nat.le_refl _)).mono ?_
      rintro e w2 ⟨rfl, ⟨m, rfl⟩, hr⟩
      have HR2 := Lib.hid hr
      clear hr
      go_wp2_with fail
      go_ret
      have hall : ∀ d ∈ t ++ [c'], d < 4294967296 := by intro d hd; rcases List.mem_append.1 hd with h | h; exact hT.out.1 d h; simp at h; omega
      have hlen : (wds (wv (t ++ [c']))).length ≤ k + 1 := wds_len (by have := wv_lt hall; simpa [HT2.out] using this)
      rw [← HV.out]
      exact ⟨_, k + 1, rfl, by simpa using HR2.out, hlen, fun b off e => by injection e with e; injection e with e; omega, dr (hbel.setCell (Nat.le_refl _) _) m⟩
theorem add_any (A A2 : Option Addr) (n n2 c c2 : Nat) (l l2 : List Nat) (hnl : n = l.length) (hnl2 : n2 = l2.length) (hl : ∀ d ∈ l, d < 4294967296) (hl2 : ∀ d ∈ l2, d < 4294967296) (w : World) (h : Rd w w.heap.size 1 A n (u32s l)) (h2 : Rd w w.heap.size 1 A2 n2 (u32s l2)) (hn : n ≤ 1000000) (hn2 : n2 ≤ 1000000) :
    Calls Tryz.prog 61 #[.slice A n c, .slice A2 n2 c2] w (WPost (wv l + wv l2) w) := by
  rcases Nat.lt_or_ge n n2 with hlt | hge
  · rw [Nat.add_comm]
    exact addLt_any A2 A n2 n c2 c l2 l hnl2 hnl hlt hl2 hl w h2 h hn2
  · exact addGe_any A A2 n n2 c c2 l l2 hnl hnl2 hge hl hl2 w h h2 hn
end Go.Proofs.YtjegfimagjmpdaaGreatDoor
end
section
/- Numbers of any size: multiplied. Conditions: none. -/
set_option maxRecDepth 20000
namespace Go.Proofs.YtjegfimagjmpdaaGreatDoor
open Go.ChangeShapes Go.WideShapes Go.ChangeAt Go.RowKit
/-- What the outer loop of 'mul' keeps: the row r. -/
def Mu (l l2 r : List Nat) (i : Nat) : Prop := r.length = l.length + l2.length ∧ (∀ x ∈ r, x < 4294967296) ∧ wv r = wv (l.take i) * wv l2 ∧ ∀ q, i + l2.length ≤ q → r.getD q 0 = 0
/-- What the inner loop keeps. -/
def Mj (l l2 r : List Nat) (i j c : Nat) : Prop := r.length = l.length + l2.length ∧ (∀ x ∈ r, x < 4294967296) ∧ c < 4294967296 ∧ wv r + 4294967296 ^ (i + j) * c = wv (l.take i) * wv l2 + l.getD i 0 * 4294967296 ^ i * wv (l2.take j) ∧ ∀ q, i + l2.length ≤ q → r.getD q 0 = 0
theorem Mu.start (l l2 : List Nat) : Mu l l2 (List.replicate (l.length + l2.length) 0) 0 := by
  refine ⟨by simp, fun x hx => by rw [(List.mem_replicate.1 hx).2]; omega, by rw [wv_rep]; simp [wv], fun q _ => ?_⟩
  rw [List.getD, List.getElem?_replicate]
  split <;> rfl
theorem Mj.start {l l2 r : List Nat} {i : Nat} (h : Mu l l2 r i) : Mj l l2 r i 0 0 := ⟨h.1, h.2.1, by omega, by rw [h.2.2.1]; simp [wv], h.2.2.2⟩
theorem getD_set_ne {r : List Nat} {a b x : Nat} (h : a ≠ b) : (r.set a x).getD b 0 = r.getD b 0 := by
  rw [List.getD, List.getD, List.getElem?_set_ne h]
theorem mem_set {r : List Nat} {a x : Nat} (h : ∀ d ∈ r, d < 4294967296) (hx : x < 4294967296) : ∀ d ∈ r.set a x, d < 4294967296 := by
  intro d hd
  rcases List.mem_or_eq_of_mem_set hd with h1 | h1
  · exact h d h1
  · rw [h1]; exact hx
theorem Mj.step {l l2 r : List Nat} {i j c Y : Nat} (h : Mj l l2 r i j c) (hi : i < l.length) (hj : j < l2.length) (hl : ∀ d ∈ l, d < 4294967296) (hl2 : ∀ d ∈ l2, d < 4294967296) (hY : Y = c + l.getD i 0 * l2.getD j 0 + r.getD (i + j) 0) : Mj l l2 (r.set (i + j) (Y % 4294967296)) i (j + 1) (Y / 4294967296) := by
  obtain ⟨h1, h2, h3, h4, h5⟩ := h
  have hs := mul_step (r := r) (b := l2) (c := c) (i := i) (j := j) (x := l.getD i 0) (V := wv (l.take i) * wv l2) (by omega) h4
  have hf := mul_fit h3 (getD_lt hl i) (getD_lt hl2 j) (getD_lt h2 (i + j))
  rw [← hY] at hs hf
  exact ⟨by simpa using h1, mem_set h2 (Nat.mod_lt _ (by omega)), hf.2, hs, fun q hq => by rw [getD_set_ne (by omega)]; exact h5 q hq⟩
theorem Mj.done {l l2 r : List Nat} {i c : Nat} (h : Mj l l2 r i l2.length c) (hi : i < l.length) : Mu l l2 (r.set (i + l2.length) c) (i + 1) := by
  obtain ⟨h1, h2, h3, h4, h5⟩ := h
  rw [List.take_of_length_le (Nat.le_refl _)] at h4
  have hr := mul_row (r := r) (a := l) (b := l2) (c := c) (i := i) (by omega) (h5 _ (Nat.le_refl _)) h4
  exact ⟨by simpa using h1, mem_set h2 h3, hr, fun q hq => by rw [getD_set_ne (by omega)]; exact h5 q (by omega)⟩
theorem prod_cast (x y : Nat) (hx : x < 4294967296) (hy : y < 4294967296) : ∃ P : Nat, (x : Int) * (y : Int) = (P : Int) ∧ P = x * y ∧ P ≤ 18446744065119617025 :=
  ⟨x * y, by rw [Int.natCast_mul], rfl, Nat.mul_le_mul (show x ≤ 4294967295 by omega) (show y ≤ 4294967295 by omega)⟩
set_option maxHeartbeats 2000000 in
theorem mul_any (A A2 : Option Addr) (n n2 c c2 : Nat) (l l2 : List Nat) (hnl : n = l.length) (hnl2 : n2 = l2.length) (hl : ∀ d ∈ l, d < 4294967296) (hl2 : ∀ d ∈ l2, d < 4294967296) (w : World) (h : Rd w w.heap.size 1 A n (u32s l)) (h2 : Rd w w.heap.size 1 A2 n2 (u32s l2)) (hn : n ≤ 1000000) (hn2 : n2 ≤ 1000000) :
    Calls Tryz.prog 62 #[.slice A n c, .slice A2 n2 c2] w (WPost (wv l * wv l2) w) := by
  obtain ⟨i0, hi, hz0, hz1, hz2⟩ := info_parts info_u32
  have HN := Lib.hid (And.intro hnl hnl2)
  have HL := Lib.hid (And.intro hl hl2)
  have HR := Lib.hid (And.intro h h2)
  clear hnl hnl2 hl hl2 h h2
  by_cases h0 : n = 0 ∨ n2 = 0
  · have hz : wv l * wv l2 = 0 := by
      rcases h0 with h0 | h0
      · rw [List.eq_nil_of_length_eq_zero (l := l) (by have := HN.out.1; omega)]; simp [wv]
      · rw [List.eq_nil_of_length_eq_zero (l := l2) (by have := HN.out.2; omega)]; simp [wv]
    have HZ := Lib.hid hz
    clear hz
    have fin : WPost (wv l * wv l2) w (.returned (.slice none 0 0)) w := by
      rw [HZ.out]
      exact ⟨none, 0, by rw [wds_zero]; rfl, by rw [wds_zero]; exact Rd.nil, by rw [wds_zero]; simp, (fun _ _ e => by cases e), Below.refl _ _⟩
    have HFin := Lib.hid fin
    clear fin
    by_cases h00 : n = 0
    · have g0 : ((n : Int) == 0) = true := by simp [h00]
      clear h0 h00
      go_enter Tryz.func62, Tryz.ntmps62
      go_wp2_with fail
      go_ret
      exact HFin.out
    · have g0 : ((n : Int) == 0) = false := by simp; omega
      have g1 : ((n2 : Int) == 0) = true := by simp; omega
      clear h0
      go_enter Tryz.func62, Tryz.ntmps62
      go_wp2_with fail
      go_ret
      exact HFin.out
  · have g0 : ((n : Int) == 0) = false := by simp; omega
    have g1 : ((n2 : Int) == 0) = false := by simp; omega
    go_enter Tryz.func62, Tryz.ntmps62
    go_wp2_with (at_make; refine wpList_make_full _ rfl _ _ 87 rfl w.heap.size 115 i0 (.int .u32 0) 1 Tryz.underlying87 hi hz0 hz1 .i64 .i64 _ _ (n + n2) rfl rfl (by go_num) (by go_num) (by rw [hz2]; omega) (by unfold maxLen; omega) (Nat.le_refl _) ?_; intro w1 hown hgrow)
    rw [made_u32s] at hown
    go_loopw [6] (fun i wr => ∃ (k : Nat) (r : List Nat), i = .int .i64 (k : Int) ∧ k ≤ n ∧ Hid (Mu l l2 r k) ∧ wr.ownsRow w.heap.size 115 1 (.slice (some ⟨w.heap.size, 0, none⟩) (n + n2) (n + n2)) (n + n2) (u32s r) ∧ Below w.heap.size w wr) (fun i _ => n - (intOf i).toNat)
    case atStart => exact ⟨0, _, rfl, by omega, Lib.hid (HN.out.1 ▸ HN.out.2 ▸ Mu.start l l2), hown, (Below.refl _ _).grown hgrow (Nat.le_refl _) (by simp)⟩
    case round =>
      obtain ⟨k, r, rfl, hk, HM, hown1, hbel1⟩ := hrel
      clear hown hgrow
      obtain ⟨wo, rfl⟩ : ∃ wo : World, wo = wr := ⟨_, rfl⟩
      by_cases hlt : k < n
      · go_wp2_with fail
        go_loopw [7, 8] (fun c j wq => ∃ (p c' : Nat) (r : List Nat), j = .int .i64 (p : Int) ∧ c = .int .u64 (c' : Int) ∧ p ≤ n2 ∧ c' < 4294967296 ∧ Hid (Mj l l2 r k p c') ∧ wq.ownsRow w.heap.size 115 1 (.slice (some ⟨w.heap.size, 0, none⟩) (n + n2) (n + n2)) (n + n2) (u32s r) ∧ Below w.heap.size w wq) (fun _ j _ => n2 - (intOf j).toNat)
        case atStart => exact ⟨0, 0, r, rfl, rfl, by omega, by omega, Lib.hid (Mj.start HM.out), hown1, hbel1⟩
        case round =>
          obtain ⟨p, c', r2, rfl, rfl, hp, hc', HJ, hown2, hbel2⟩ := hrel
          clear hown1 hbel1 HM
          have hrl : r2.length = n + n2 := by rw [HJ.out.1, HN.out.1, HN.out.2]
          have HRL := Lib.hid hrl
          clear hrl
          by_cases hlt2 : p < n2
          · obtain ⟨b, off, rfl, hcell⟩ := cell32 (HR.out.1.below hbel2) hlt
            obtain ⟨b2, off2, rfl, hcell2⟩ := cell32 (HR.out.2.below hbel2) hlt2
            have hcl := hown2.cellAt (k + p) (by omega)
            have hfz := hown2.frozenAt (k + p)
            rw [u32s_get _ _ (by have := HRL.out; omega)] at hcl
            have hx := getD_lt HL.out.1 k
            have hy := getD_lt HL.out.2 p
            have hz := getD_lt HJ.out.2.1 (k + p)
            obtain ⟨Y, hY⟩ : ∃ Y, Y = c' + l.getD k 0 * l2.getD p 0 + r2.getD (k + p) 0 := ⟨_, rfl⟩
            have hfit := mul_fit hc' hx hy hz
            rw [← hY] at hfit
            have HS := Lib.hid (And.intro (hown2.stored (k + p) (.int .u32 ((Y : Int) % 4294967296))).1 (HJ.out.step (by have := HN.out.1; omega) (by have := HN.out.2; omega) HL.out.1 HL.out.2 hY))
            generalize l.getD k 0 = x at *
            generalize l2.getD p 0 = y at *
            generalize r2.getD (k + p) 0 = z at *
            obtain ⟨P, hP, hP2, hP3⟩ := prod_cast x y hx hy
            have hY2 := hfit.2
            rw [← hP2] at hY
            have hw1 : IntKind.u64.wrap ((x : Int) * (y : Int)) = (P : Int) := by rw [hP]; exact wrapU _ (by omega) (by omega)
            obtain ⟨Q, hQ⟩ : ∃ Q, Q = P + z := ⟨_, rfl⟩
            have hw2 : IntKind.u64.wrap ((P : Int) + (z : Int)) = (Q : Int) := by rw [wrapU _ (by omega) (by omega), hQ]; simp
            have hw3 : IntKind.u64.wrap ((c' : Int) + (Q : Int)) = (Y : Int) := by rw [wrapU _ (by omega) (by omega)]; omega
            have hw4 : IntKind.i64.wrap ((k : Int) + (p : Int)) = (k : Int) + (p : Int) := IntWalk.i64_in _ (by omega)
            have hkp : ((k : Int) + (p : Int)).toNat = k + p := by omega
            have hk1 : (0 : Int) ≤ (k : Int) := by omega
            have hk2 : (k : Int) < (n : Int) := by omega
            have hp1 : (0 : Int) ≤ (p : Int) := by omega
            have hp2 : (p : Int) < (n2 : Int) := by omega
            have hkp1 : (0 : Int) ≤ (k : Int) + (p : Int) := by omega
            have hkp2 : (k : Int) + (p : Int) < (n : Int) + (n2 : Int) := by omega
            have HYY := Lib.hid hfit.1
            clear hY hP2 hfit hP hQ
            go_wp2_with fail
            go_quiet (fail)
            clear hw1 hw2 hw3 hw4
            have hY1 := HYY.out
            go_wp2
            go_roundw
            case rel => exact ⟨p + 1, Y / 4294967296, _, by go_num, by go_num, by omega, hY2, Lib.hid HS.out.2, by have := HS.out.1; rw [show ((Y : Int) % 4294967296) = ((Y % 4294967296 : Nat) : Int) by omega, u32s_set] at this; exact this, (dr hbel2 _).setCell (Nat.le_refl _) _⟩
            case measure => simp [intOf]; omega
          · obtain rfl : p = n2 := by omega
            have hcl := hown2.cellAt (k + p) (by omega)
            have hfz := hown2.frozenAt (k + p)
            rw [u32s_get _ _ (by have := HRL.out; omega)] at hcl
            have hst := (hown2.stored (k + p) (.int .u32 (c' : Int))).1
            rw [u32s_set] at hst
            have hMu : Mu l l2 (r2.set (k + p) c') (k + 1) := by
              have := HJ.out
              rw [HN.out.2] at this ⊢
              exact this.done (by have := HN.out.1; omega)
            have HS := Lib.hid (And.intro hst hMu)
            have hcm : (c' : Int) % 4294967296 = (c' : Int) := by omega
            have hkp : ((k : Int) + (p : Int)).toNat = k + p := by omega
            clear hst hMu
            go_wp2
            go_roundw
            case rel => exact ⟨k + 1, _, by go_num, by omega, Lib.hid HS.out.2, HS.out.1, hbel2.setCell (Nat.le_refl _) _⟩
            case measure => simp [intOf]; omega
      · obtain rfl : k = n := by omega
        have hwv : wv r = wv l * wv l2 := by
          have := HM.out.2.2.1
          rwa [List.take_of_length_le (by have := HN.out.1; omega)] at this
        have HV := Lib.hid hwv
        have hrl : k + n2 = r.length := by rw [HM.out.1, HN.out.1, HN.out.2]
        have HRL := Lib.hid hrl
        clear hwv hrl
        go_wp2_with fail
        refine (trim_any (some ⟨w.heap.size, 0, none⟩) (k + n2) (k + n2) r HRL.out HM.out.2.1 _ _ (Rd.of_own hown1) (by omega) (Nat.le_refl _)).mono ?_
        rintro e w2 ⟨rfl, ⟨m, rfl⟩, hr⟩
        have HR2 := Lib.hid hr
        clear hr
        go_wp2_with fail
        go_ret
        have hlen : (wds (wv r)).length ≤ k + n2 := wds_len (by have := wv_lt HM.out.2.1; rw [← HRL.out] at this; exact this)
        rw [← HV.out]
        exact ⟨_, k + n2, rfl, HR2.out, hlen, fun b off e => by injection e with e; injection e with e; omega, dr hbel1 m⟩
end Go.Proofs.YtjegfimagjmpdaaGreatDoor
end
section
/- Numbers of any size: read from their text. Conditions: none. -/
set_option maxRecDepth 20000
namespace Go.Proofs.YtjegfimagjmpdaaGreatDoor
open Go.ChangeShapes Go.WideShapes Go.ChangeAt Go.RowKit
theorem dval_aux : ∀ (l : List Nat) (a n : Nat), digs l = true → a < 10 ^ n → l.foldl (fun a d => a * 10 + (d - 48)) a < 10 ^ (n + l.length)
  | [], a, n, _, h => by simpa using h
  | d :: l, a, n, h, ha => by
    unfold digs at h
    rw [List.all_cons, Bool.and_eq_true] at h
    have h2 := h.1
    simp at h2
    have := dval_aux l (a * 10 + (d - 48)) (n + 1) h.2 (by rw [Nat.pow_succ]; omega)
    rw [List.foldl_cons, List.length_cons, show n + (l.length + 1) = n + 1 + l.length by omega]
    exact this
theorem dval_lt (l : List Nat) (h : digs l = true) : dval l < 10 ^ l.length := by
  have := dval_aux l 0 0 h (by decide)
  rw [Nat.zero_add] at this
  exact this
/-- What SetString leaves. -/
def SP (g : Nat) (s : ByteArray) (w : World) (e : Ending) (w' : World) : Prop :=
  (∃ z, parse (byt s) = some z ∧ e = .returned (.tuple #[.pointer (some ⟨g, 0, none⟩), .bool true]) ∧ Big w' w'.heap.size g z ∧ w.grownBy w' (some g)) ∨ (parse (byt s) = none ∧ e = .returned (.tuple #[.pointer none, .bool false]) ∧ w.grownBy w' (some g))
theorem SP.no {g : Nat} {s : ByteArray} {w w' : World} (h : parse (byt s) = none) (hb : Below w.heap.size w w') : SP g s w (.returned (.tuple #[.pointer none, .bool false])) w' := .inr ⟨h, rfl, gb_below _ hb⟩
theorem SP.yes {g : Nat} {s : ByteArray} {w w' : World} {z : Int} (h : parse (byt s) = some z) (hB : Big w' w'.heap.size g z) (hg : w.grownBy w' (some g)) : SP g s w (.returned (.tuple #[.pointer (some ⟨g, 0, none⟩), .bool true])) w' := .inl ⟨z, h, rfl, hB, hg⟩
theorem parse_bad {s T : ByteArray} {b : Bool} (hS : sgn (byt s) = (b, byt T)) {k : Nat} (hk : k < T.size) (hd : ¬ (48 ≤ T[k].toNat ∧ T[k].toNat ≤ 57)) : parse (byt s) = none := by
  unfold parse
  rw [hS, if_neg]
  rintro ⟨_, h⟩
  exact hd (digs_take (byt_get T k hk) h)
theorem parse_ok {s T : ByteArray} {b : Bool} (hS : sgn (byt s) = (b, byt T)) (h0 : 0 < T.size) (hd : digs (byt T) = true) {V : Nat} (hV : dval (byt T) = V) : parse (byt s) = some (if b = true then -(V : Int) else (V : Int)) := by
  unfold parse
  rw [hS, if_pos ⟨by intro e; have := byt_len T; simp only at e; rw [e] at this; simp at this; omega, hd⟩, hV]
theorem parse_empty {s T : ByteArray} {b : Bool} (hS : sgn (byt s) = (b, byt T)) (h0 : T.size = 0) : parse (byt s) = none := by
  unfold parse
  rw [hS, if_neg]
  rintro ⟨h, _⟩
  exact h (List.eq_nil_of_length_eq_zero (by rw [byt_len]; exact h0))
set_option maxHeartbeats 1000000 in
theorem setStr_plain (g : Nat) (s : ByteArray) (x y : Value) (w : World) (h0 : w.cell? ⟨g, 0, none⟩ = some x) (h1 : w.cell? ⟨g, 1, none⟩ = some y) (f0 : w.frozen? ⟨g, 0, none⟩ = false) (f1 : w.frozen? ⟨g, 1, none⟩ = false) (hs : s.size ≤ 20) (hz : 0 < s.size) (hc1 : s[0] ≠ 45) (hc2 : s[0] ≠ 43) (hS : sgn (byt s) = (false, byt s)) : Calls Tryz.prog 41 #[.pointer (some ⟨g, 0, none⟩), .string s, .int .i64 10] w (SP g s w) := by
  have hSg := Lib.hid hS
  have g1 : ((s[0].toNat : Int) == 45) = false := by have := u8_ne hc1; simp at this ⊢; omega
  have g2 : ((s[0].toNat : Int) == 43) = false := by have := u8_ne hc2; simp at this ⊢; omega
  have gz : decide ((0 : Int) < (s.size : Int)) = true := decide_eq_true (by omega)
  have gz0 : ((s.size : Int) == 0) = false := beq_eq_false_iff_ne.2 (by omega)
  have HG := Lib.hid (And.intro h0 (And.intro h1 (And.intro f0 f1)))
  clear hc1 hc2 h0 h1 f0 f1 hS
  go_enter Tryz.func41, Tryz.ntmps41
  go_wp2_with fail
  go_loopw [9, 10] (fun r i wr => ∃ (k : Nat) (A : Option Addr) (c : Nat), i = .int .i64 (k : Int) ∧ k ≤ s.size ∧ Hid (digs ((byt s).take k) = true) ∧ r = .slice A (wds (dval ((byt s).take k))).length c ∧ (wds (dval ((byt s).take k))).length ≤ c ∧ Rd wr wr.heap.size 1 A (wds (dval ((byt s).take k))).length (u32s (wds (dval ((byt s).take k)))) ∧ (∀ b off, A = some ⟨b, off, none⟩ → w.heap.size ≤ b) ∧ Below w.heap.size w wr) (fun _ i _ => s.size - (intOf i).toNat)
  case atStart => exact ⟨0, none, 0, rfl, by omega, Lib.hid rfl, by simp [dval, wds_zero], by simp [dval, wds_zero], by simp [dval, wds_zero]; exact Rd.nil, (fun _ _ e => by cases e), Below.refl _ _⟩
  case round =>
    obtain ⟨k, A, c, rfl, hk, HD, rfl, hlc, hr, hA, hbel⟩ := hrel
    have hv20 := dval_lt ((byt s).take k) HD.out
    have hkl : ((byt s).take k).length = k := by rw [List.length_take, byt_len]; omega
    rw [hkl] at hv20
    have hv96 := Nat.lt_of_lt_of_le hv20 (Nat.le_trans (Nat.pow_le_pow_right (show 0 < 10 by omega) (show k ≤ 20 by omega)) (show 10 ^ 20 ≤ 79228162514264337593543950336 by decide))
    have HR := Lib.hid (And.intro hr hA)
    clear hr hA hkl hv20
    by_cases hlt : k < s.size
    · by_cases hdg : 48 ≤ s[k].toNat ∧ s[k].toNat ≤ 57
      · have g1 : decide ((48 : Int) ≤ (s[k].toNat : Int)) = true := decide_eq_true (by omega)
        have g2 : decide ((s[k].toNat : Int) ≤ 57) = true := decide_eq_true (by omega)
        have hlo : (48 : Int) ≤ (s[k].toNat : Int) := by omega
        have hhi : (s[k].toNat : Int) ≤ 57 := by omega
        have hd := byt_get s k hlt
        have hsn : (byt s).take (k + 1) = (byt s).take k ++ [s[k].toNat] := by rw [List.take_add_one, hd]; rfl
        have HS := Lib.hid (show dval ((byt s).take (k + 1)) = dval ((byt s).take k) * 10 + (s[k].toNat - 48) by rw [hsn, dval_snoc])
        have HD2 := Lib.hid (show digs ((byt s).take (k + 1)) = true by rw [hsn]; exact digs_snoc HD.out hdg)
        generalize dval ((byt s).take k) = V at *
        have hlenV := wds_len (n := V) (k := 3) (by rw [show (4294967296 : Nat) ^ 3 = 79228162514264337593543950336 by decide]; exact hv96)
        obtain ⟨D, hD⟩ : ∃ D, D = s[k].toNat - 48 := ⟨_, rfl⟩
        have hDl : D < 10 := by omega
        have hDe := Lib.hid (show (s[k].toNat : Int) - 48 = (D : Int) by omega)
        rw [← hD] at HS
        have hge : decide ((10 : Int) ≤ (s[k].toNat : Int) - 48) = false := decide_eq_false (by omega)
        have hv4 : V * 10 < 4294967296 ^ 4 := by
          rw [show (4294967296 : Nat) ^ 4 = 340282366920938463463374607431768211456 by decide]; omega
        have hlm := wds_len hv4
        clear hD hd hsn hdg hv96 hv4
        go_wp2_with fail
        refine (words_any 10 10 rfl (by omega) _).mono ?_
        rintro e w2 ⟨A2, c2, rfl, hr2, hl2, hA2, hb2⟩
        have H2 := Lib.hid (And.intro hr2 hA2)
        have HB2 := Lib.hid (sq hbel hb2)
        have HR2 := Lib.hid (HR.out.1.into (Nat.le_refl _) hb2)
        have h10 := wds_len (n := 10) (k := 1) (by omega)
        clear hr2 hA2 hb2
        go_wp2_with fail
        refine (mul_any A A2 _ _ c c2 (wds V) (wds 10) rfl rfl (wds_lt _) (wds_lt _) _ HR2.out H2.out.1 (by omega) (by omega)).mono ?_
        rintro e w3 ⟨A3, c3, rfl, hr3, hl3, hA3, hb3⟩
        rw [wv_wds, wv_wds] at hr3 hl3 ⊢
        have H3 := Lib.hid (And.intro hr3 hA3)
        have HB3 := Lib.hid (sq HB2.out hb3)
        clear hr3 hA3 hb3
        go_wp2_with fail
        refine (words_any _ D hDe.out (by omega) _).mono ?_
        rintro e w4 ⟨A4, c4, rfl, hr4, hl4, hA4, hb4⟩
        have H4 := Lib.hid (And.intro hr4 hA4)
        have HB4 := Lib.hid (sq HB3.out hb4)
        have HR4 := Lib.hid (H3.out.1.into (Nat.le_refl _) hb4)
        have hld := wds_len (n := D) (k := 1) (by omega)
        clear hr4 hA4 hb4
        go_wp2_with fail
        refine (add_any A3 A4 _ _ c3 c4 (wds (V * 10)) (wds D) rfl rfl (wds_lt _) (wds_lt _) _ HR4.out H4.out.1 (by omega) (by omega)).mono ?_
        rintro e w5 ⟨A5, c5, rfl, hr5, hl5, hA5, hb5⟩
        rw [wv_wds, wv_wds, ← HS.out] at hr5 hl5 ⊢
        have H5 := Lib.hid (And.intro hr5 hA5)
        have HB5 := Lib.hid (sq HB4.out hb5)
        clear hr5 hA5 hb5
        go_wp2_with fail
        go_roundw
        case rel => exact ⟨k + 1, A5, c5, by go_num, by omega, HD2, rfl, hl5, H5.out.1, fun b off e => Nat.le_trans HB4.out.size (H5.out.2 b off e), HB5.out⟩
        case measure => simp [intOf]; omega
      · have HF := Lib.hid (show parse (byt s) = none from parse_bad hSg.out hlt hdg)
        have hdg2 : s[k].toNat < 48 ∨ 57 < s[k].toNat := by omega
        clear hdg
        rcases hdg2 with hdg | hdg
        · have g1 : decide ((48 : Int) ≤ (s[k].toNat : Int)) = false := decide_eq_false (by omega)
          have g3 : decide ((97 : Int) ≤ (s[k].toNat : Int)) = false := decide_eq_false (by omega)
          have g5 : decide ((65 : Int) ≤ (s[k].toNat : Int)) = false := decide_eq_false (by omega)
          go_wp2_with fail
          go_returns
          exact SP.no HF.out hbel
        · have g1 : decide ((48 : Int) ≤ (s[k].toNat : Int)) = true := decide_eq_true (by omega)
          have g2 : decide ((s[k].toNat : Int) ≤ 57) = false := decide_eq_false (by omega)
          go_wp2_with fail
          all_goals
            go_returns
            exact SP.no HF.out hbel
    · have HTT := Lib.hid (show (byt s).take k = byt s from List.take_of_length_le (by rw [byt_len]; omega))
      rw [HTT.out] at HR HD hlc ⊢
      generalize hV : dval (byt s) = V at *
      have HF := Lib.hid (show parse (byt s) = some (if false = true then -(V : Int) else (V : Int)) from parse_ok hSg.out (by omega) HD.out hV)
      obtain ⟨e0, e1, e2, e3⟩ := HG.out
      have hg : g < w.heap.size := World.block_lt_of_cell? w _ e0
      have k0 := (hbel.cell (p := ⟨g, 0, none⟩) hg).trans e0
      have k1 := (hbel.cell (p := ⟨g, 1, none⟩) hg).trans e1
      have k2 := (hbel.frozen (p := ⟨g, 0, none⟩) hg).trans e2
      have k3 := (hbel.frozen (p := ⟨g, 1, none⟩) hg).trans e3
      have HK := Lib.hid (And.intro k0 (And.intro k1 (And.intro k2 k3)))
      clear e0 e1 e2 e3 k0 k1 k2 k3 hV
      go_wp2_with fail
      refine (give_big g false A V c x y wr HK.out.1 HK.out.2.1 HK.out.2.2.1 HK.out.2.2.2 HR.out.1 (fun b off e => by have := HR.out.2 b off e; omega) hlc).mono ?_
      rintro e w2 ⟨rfl, hB, hgb⟩
      have HB := Lib.hid hB
      clear hB
      go_wp2_with fail
      go_returns
      exact SP.yes HF.out HB.out (gb_trans (gb_below _ hbel) hgb)
set_option maxHeartbeats 1000000 in
theorem setStr_minus (g : Nat) (s T : ByteArray) (x y : Value) (w : World) (h0 : w.cell? ⟨g, 0, none⟩ = some x) (h1 : w.cell? ⟨g, 1, none⟩ = some y) (f0 : w.frozen? ⟨g, 0, none⟩ = false) (f1 : w.frozen? ⟨g, 1, none⟩ = false) (hs : s.size ≤ 20) (hz : 0 < s.size) (hc : s[0] = 45) (hT : s.extract 1 s.size = T) (hS : sgn (byt s) = (true, byt T)) : Calls Tryz.prog 41 #[.pointer (some ⟨g, 0, none⟩), .string s, .int .i64 10] w (SP g s w) := by
  have hSg := Lib.hid hS
  have g1 : ((s[0].toNat : Int) == 45) = true := by rw [hc]; rfl
  have gz : decide ((0 : Int) < (s.size : Int)) = true := decide_eq_true (by omega)
  have h1s : (1 : Int) ≤ (s.size : Int) := by omega
  have hTs : T.size ≤ 20 := by rw [← hT, ByteArray.size_extract]; omega
  have HG := Lib.hid (And.intro h0 (And.intro h1 (And.intro f0 f1)))
  clear hc h0 h1 f0 f1 hS
  by_cases hT0 : T.size = 0
  · have HF := Lib.hid (parse_empty hSg.out hT0)
    have gz0 : ((T.size : Int) == 0) = true := by simp [hT0]
    clear hT0
    go_enter Tryz.func41, Tryz.ntmps41
    go_wp2_with fail
    go_returns
    exact SP.no HF.out (Below.refl _ _)
  · have gz0 : ((T.size : Int) == 0) = false := beq_eq_false_iff_ne.2 (by omega)
    go_enter Tryz.func41, Tryz.ntmps41
    go_wp2_with fail
    clear hT
    go_loopw [9, 10] (fun r i wr => ∃ (k : Nat) (A : Option Addr) (c : Nat), i = .int .i64 (k : Int) ∧ k ≤ T.size ∧ Hid (digs ((byt T).take k) = true) ∧ r = .slice A (wds (dval ((byt T).take k))).length c ∧ (wds (dval ((byt T).take k))).length ≤ c ∧ Rd wr wr.heap.size 1 A (wds (dval ((byt T).take k))).length (u32s (wds (dval ((byt T).take k)))) ∧ (∀ b off, A = some ⟨b, off, none⟩ → w.heap.size ≤ b) ∧ Below w.heap.size w wr) (fun _ i _ => T.size - (intOf i).toNat)
    case atStart => exact ⟨0, none, 0, rfl, by omega, Lib.hid rfl, by simp [dval, wds_zero], by simp [dval, wds_zero], by simp [dval, wds_zero]; exact Rd.nil, (fun _ _ e => by cases e), Below.refl _ _⟩
    case round =>
      obtain ⟨k, A, c, rfl, hk, HD, rfl, hlc, hr, hA, hbel⟩ := hrel
      have hv20 := dval_lt ((byt T).take k) HD.out
      have hkl : ((byt T).take k).length = k := by rw [List.length_take, byt_len]; omega
      rw [hkl] at hv20
      have hv96 := Nat.lt_of_lt_of_le hv20 (Nat.le_trans (Nat.pow_le_pow_right (show 0 < 10 by omega) (show k ≤ 20 by omega)) (show 10 ^ 20 ≤ 79228162514264337593543950336 by decide))
      have HR := Lib.hid (And.intro hr hA)
      clear hr hA hkl hv20
      by_cases hlt : k < T.size
      · by_cases hdg : 48 ≤ T[k].toNat ∧ T[k].toNat ≤ 57
        · have g1 : decide ((48 : Int) ≤ (T[k].toNat : Int)) = true := decide_eq_true (by omega)
          have g2 : decide ((T[k].toNat : Int) ≤ 57) = true := decide_eq_true (by omega)
          have hlo : (48 : Int) ≤ (T[k].toNat : Int) := by omega
          have hhi : (T[k].toNat : Int) ≤ 57 := by omega
          have hd := byt_get T k hlt
          have hsn : (byt T).take (k + 1) = (byt T).take k ++ [T[k].toNat] := by rw [List.take_add_one, hd]; rfl
          have HS := Lib.hid (show dval ((byt T).take (k + 1)) = dval ((byt T).take k) * 10 + (T[k].toNat - 48) by rw [hsn, dval_snoc])
          have HD2 := Lib.hid (show digs ((byt T).take (k + 1)) = true by rw [hsn]; exact digs_snoc HD.out hdg)
          generalize dval ((byt T).take k) = V at *
          have hlenV := wds_len (n := V) (k := 3) (by rw [show (4294967296 : Nat) ^ 3 = 79228162514264337593543950336 by decide]; exact hv96)
          obtain ⟨D, hD⟩ : ∃ D, D = T[k].toNat - 48 := ⟨_, rfl⟩
          have hDl : D < 10 := by omega
          have hDe := Lib.hid (show (T[k].toNat : Int) - 48 = (D : Int) by omega)
          rw [← hD] at HS
          have hge : decide ((10 : Int) ≤ (T[k].toNat : Int) - 48) = false := decide_eq_false (by omega)
          have hv4 : V * 10 < 4294967296 ^ 4 := by
            rw [show (4294967296 : Nat) ^ 4 = 340282366920938463463374607431768211456 by decide]; omega
          have hlm := wds_len hv4
          clear hD hd hsn hdg hv96 hv4
          go_wp2_with fail
          refine (words_any 10 10 rfl (by omega) _).mono ?_
          rintro e w2 ⟨A2, c2, rfl, hr2, hl2, hA2, hb2⟩
          have H2 := Lib.hid (And.intro hr2 hA2)
          have HB2 := Lib.hid (sq hbel hb2)
          have HR2 := Lib.hid (HR.out.1.into (Nat.le_refl _) hb2)
          have h10 := wds_len (n := 10) (k := 1) (by omega)
          clear hr2 hA2 hb2
          go_wp2_with fail
          refine (mul_any A A2 _ _ c c2 (wds V) (wds 10) rfl rfl (wds_lt _) (wds_lt _) _ HR2.out H2.out.1 (by omega) (by omega)).mono ?_
          rintro e w3 ⟨A3, c3, rfl, hr3, hl3, hA3, hb3⟩
          rw [wv_wds, wv_wds] at hr3 hl3 ⊢
          have H3 := Lib.hid (And.intro hr3 hA3)
          have HB3 := Lib.hid (sq HB2.out hb3)
          clear hr3 hA3 hb3
          go_wp2_with fail
          refine (words_any _ D hDe.out (by omega) _).mono ?_
          rintro e w4 ⟨A4, c4, rfl, hr4, hl4, hA4, hb4⟩
          have H4 := Lib.hid (And.intro hr4 hA4)
          have HB4 := Lib.hid (sq HB3.out hb4)
          have HR4 := Lib.hid (H3.out.1.into (Nat.le_refl _) hb4)
          have hld := wds_len (n := D) (k := 1) (by omega)
          clear hr4 hA4 hb4
          go_wp2_with fail
          refine (add_any A3 A4 _ _ c3 c4 (wds (V * 10)) (wds D) rfl rfl (wds_lt _) (wds_lt _) _ HR4.out H4.out.1 (by omega) (by omega)).mono ?_
          rintro e w5 ⟨A5, c5, rfl, hr5, hl5, hA5, hb5⟩
          rw [wv_wds, wv_wds, ← HS.out] at hr5 hl5 ⊢
          have H5 := Lib.hid (And.intro hr5 hA5)
          have HB5 := Lib.hid (sq HB4.out hb5)
          clear hr5 hA5 hb5
          go_wp2_with fail
          go_roundw
          case rel => exact ⟨k + 1, A5, c5, by go_num, by omega, HD2, rfl, hl5, H5.out.1, fun b off e => Nat.le_trans HB4.out.size (H5.out.2 b off e), HB5.out⟩
          case measure => simp [intOf]; omega
        · have HF := Lib.hid (show parse (byt s) = none from parse_bad hSg.out hlt hdg)
          have hdg2 : T[k].toNat < 48 ∨ 57 < T[k].toNat := by omega
          clear hdg
          rcases hdg2 with hdg | hdg
          · have g1 : decide ((48 : Int) ≤ (T[k].toNat : Int)) = false := decide_eq_false (by omega)
            have g3 : decide ((97 : Int) ≤ (T[k].toNat : Int)) = false := decide_eq_false (by omega)
            have g5 : decide ((65 : Int) ≤ (T[k].toNat : Int)) = false := decide_eq_false (by omega)
            go_wp2_with fail
            go_returns
            exact SP.no HF.out hbel
          · have g1 : decide ((48 : Int) ≤ (T[k].toNat : Int)) = true := decide_eq_true (by omega)
            have g2 : decide ((T[k].toNat : Int) ≤ 57) = false := decide_eq_false (by omega)
            go_wp2_with fail
            all_goals
              go_returns
              exact SP.no HF.out hbel
      · have HTT := Lib.hid (show (byt T).take k = byt T from List.take_of_length_le (by rw [byt_len]; omega))
        rw [HTT.out] at HR HD hlc ⊢
        generalize hV : dval (byt T) = V at *
        have HF := Lib.hid (show parse (byt s) = some (if true = true then -(V : Int) else (V : Int)) from parse_ok hSg.out (by omega) HD.out hV)
        obtain ⟨e0, e1, e2, e3⟩ := HG.out
        have hg : g < w.heap.size := World.block_lt_of_cell? w _ e0
        have k0 := (hbel.cell (p := ⟨g, 0, none⟩) hg).trans e0
        have k1 := (hbel.cell (p := ⟨g, 1, none⟩) hg).trans e1
        have k2 := (hbel.frozen (p := ⟨g, 0, none⟩) hg).trans e2
        have k3 := (hbel.frozen (p := ⟨g, 1, none⟩) hg).trans e3
        have HK := Lib.hid (And.intro k0 (And.intro k1 (And.intro k2 k3)))
        clear e0 e1 e2 e3 k0 k1 k2 k3 hV
        go_wp2_with fail
        refine (give_big g true A V c x y wr HK.out.1 HK.out.2.1 HK.out.2.2.1 HK.out.2.2.2 HR.out.1 (fun b off e => by have := HR.out.2 b off e; omega) hlc).mono ?_
        rintro e w2 ⟨rfl, hB, hgb⟩
        have HB := Lib.hid hB
        clear hB
        go_wp2_with fail
        go_returns
        exact SP.yes HF.out HB.out (gb_trans (gb_below _ hbel) hgb)
set_option maxHeartbeats 1000000 in
theorem setStr_plus (g : Nat) (s T : ByteArray) (x y : Value) (w : World) (h0 : w.cell? ⟨g, 0, none⟩ = some x) (h1 : w.cell? ⟨g, 1, none⟩ = some y) (f0 : w.frozen? ⟨g, 0, none⟩ = false) (f1 : w.frozen? ⟨g, 1, none⟩ = false) (hs : s.size ≤ 20) (hz : 0 < s.size) (hc : s[0] = 43) (hT : s.extract 1 s.size = T) (hS : sgn (byt s) = (false, byt T)) : Calls Tryz.prog 41 #[.pointer (some ⟨g, 0, none⟩), .string s, .int .i64 10] w (SP g s w) := by
  have hSg := Lib.hid hS
  have g1 : ((s[0].toNat : Int) == 45) = false := by rw [hc]; rfl
  have g2 : ((s[0].toNat : Int) == 43) = true := by rw [hc]; rfl
  have gz : decide ((0 : Int) < (s.size : Int)) = true := decide_eq_true (by omega)
  have h1s : (1 : Int) ≤ (s.size : Int) := by omega
  have hTs : T.size ≤ 20 := by rw [← hT, ByteArray.size_extract]; omega
  have HG := Lib.hid (And.intro h0 (And.intro h1 (And.intro f0 f1)))
  clear hc h0 h1 f0 f1 hS
  by_cases hT0 : T.size = 0
  · have HF := Lib.hid (parse_empty hSg.out hT0)
    have gz0 : ((T.size : Int) == 0) = true := by simp [hT0]
    clear hT0
    go_enter Tryz.func41, Tryz.ntmps41
    go_wp2_with fail
    go_returns
    exact SP.no HF.out (Below.refl _ _)
  · have gz0 : ((T.size : Int) == 0) = false := beq_eq_false_iff_ne.2 (by omega)
    go_enter Tryz.func41, Tryz.ntmps41
    go_wp2_with fail
    clear hT
    go_loopw [9, 10] (fun r i wr => ∃ (k : Nat) (A : Option Addr) (c : Nat), i = .int .i64 (k : Int) ∧ k ≤ T.size ∧ Hid (digs ((byt T).take k) = true) ∧ r = .slice A (wds (dval ((byt T).take k))).length c ∧ (wds (dval ((byt T).take k))).length ≤ c ∧ Rd wr wr.heap.size 1 A (wds (dval ((byt T).take k))).length (u32s (wds (dval ((byt T).take k)))) ∧ (∀ b off, A = some ⟨b, off, none⟩ → w.heap.size ≤ b) ∧ Below w.heap.size w wr) (fun _ i _ => T.size - (intOf i).toNat)
    case atStart => exact ⟨0, none, 0, rfl, by omega, Lib.hid rfl, by simp [dval, wds_zero], by simp [dval, wds_zero], by simp [dval, wds_zero]; exact Rd.nil, (fun _ _ e => by cases e), Below.refl _ _⟩
    case round =>
      obtain ⟨k, A, c, rfl, hk, HD, rfl, hlc, hr, hA, hbel⟩ := hrel
      have hv20 := dval_lt ((byt T).take k) HD.out
      have hkl : ((byt T).take k).length = k := by rw [List.length_take, byt_len]; omega
      rw [hkl] at hv20
      have hv96 := Nat.lt_of_lt_of_le hv20 (Nat.le_trans (Nat.pow_le_pow_right (show 0 < 10 by omega) (show k ≤ 20 by omega)) (show 10 ^ 20 ≤ 79228162514264337593543950336 by decide))
      have HR := Lib.hid (And.intro hr hA)
      clear hr hA hkl hv20
      by_cases hlt : k < T.size
      · by_cases hdg : 48 ≤ T[k].toNat ∧ T[k].toNat ≤ 57
        · have g1 : decide ((48 : Int) ≤ (T[k].toNat : Int)) = true := decide_eq_true (by omega)
          have g2 : decide ((T[k].toNat : Int) ≤ 57) = true := decide_eq_true (by omega)
          have hlo : (48 : Int) ≤ (T[k].toNat : Int) := by omega
          have hhi : (T[k].toNat : Int) ≤ 57 := by omega
          have hd := byt_get T k hlt
          have hsn : (byt T).take (k + 1) = (byt T).take k ++ [T[k].toNat] := by rw [List.take_add_one, hd]; rfl
          have HS := Lib.hid (show dval ((byt T).take (k + 1)) = dval ((byt T).take k) * 10 + (T[k].toNat - 48) by rw [hsn, dval_snoc])
          have HD2 := Lib.hid (show digs ((byt T).take (k + 1)) = true by rw [hsn]; exact digs_snoc HD.out hdg)
          generalize dval ((byt T).take k) = V at *
          have hlenV := wds_len (n := V) (k := 3) (by rw [show (4294967296 : Nat) ^ 3 = 79228162514264337593543950336 by decide]; exact hv96)
          obtain ⟨D, hD⟩ : ∃ D, D = T[k].toNat - 48 := ⟨_, rfl⟩
          have hDl : D < 10 := by omega
          have hDe := Lib.hid (show (T[k].toNat : Int) - 48 = (D : Int) by omega)
          rw [← hD] at HS
          have hge : decide ((10 : Int) ≤ (T[k].toNat : Int) - 48) = false := decide_eq_false (by omega)
          have hv4 : V * 10 < 4294967296 ^ 4 := by
            rw [show (4294967296 : Nat) ^ 4 = 340282366920938463463374607431768211456 by decide]; omega
          have hlm := wds_len hv4
          clear hD hd hsn hdg hv96 hv4
          go_wp2_with fail
          refine (words_any 10 10 rfl (by omega) _).mono ?_
          rintro e w2 ⟨A2, c2, rfl, hr2, hl2, hA2, hb2⟩
          have H2 := Lib.hid (And.intro hr2 hA2)
          have HB2 := Lib.hid (sq hbel hb2)
          have HR2 := Lib.hid (HR.out.1.into (Nat.le_refl _) hb2)
          have h10 := wds_len (n := 10) (k := 1) (by omega)
          clear hr2 hA2 hb2
          go_wp2_with fail
          refine (mul_any A A2 _ _ c c2 (wds V) (wds 10) rfl rfl (wds_lt _) (wds_lt _) _ HR2.out H2.out.1 (by omega) (by omega)).mono ?_
          rintro e w3 ⟨A3, c3, rfl, hr3, hl3, hA3, hb3⟩
          rw [wv_wds, wv_wds] at hr3 hl3 ⊢
          have H3 := Lib.hid (And.intro hr3 hA3)
          have HB3 := Lib.hid (sq HB2.out hb3)
          clear hr3 hA3 hb3
          go_wp2_with fail
          refine (words_any _ D hDe.out (by omega) _).mono ?_
          rintro e w4 ⟨A4, c4, rfl, hr4, hl4, hA4, hb4⟩
          have H4 := Lib.hid (And.intro hr4 hA4)
          have HB4 := Lib.hid (sq HB3.out hb4)
          have HR4 := Lib.hid (H3.out.1.into (Nat.le_refl _) hb4)
          have hld := wds_len (n := D) (k := 1) (by omega)
          clear hr4 hA4 hb4
          go_wp2_with fail
          refine (add_any A3 A4 _ _ c3 c4 (wds (V * 10)) (wds D) rfl rfl (wds_lt _) (wds_lt _) _ HR4.out H4.out.1 (by omega) (by omega)).mono ?_
          rintro e w5 ⟨A5, c5, rfl, hr5, hl5, hA5, hb5⟩
          rw [wv_wds, wv_wds, ← HS.out] at hr5 hl5 ⊢
          have H5 := Lib.hid (And.intro hr5 hA5)
          have HB5 := Lib.hid (sq HB4.out hb5)
          clear hr5 hA5 hb5
          go_wp2_with fail
          go_roundw
          case rel => exact ⟨k + 1, A5, c5, by go_num, by omega, HD2, rfl, hl5, H5.out.1, fun b off e => Nat.le_trans HB4.out.size (H5.out.2 b off e), HB5.out⟩
          case measure => simp [intOf]; omega
        · have HF := Lib.hid (show parse (byt s) = none from parse_bad hSg.out hlt hdg)
          have hdg2 : T[k].toNat < 48 ∨ 57 < T[k].toNat := by omega
          clear hdg
          rcases hdg2 with hdg | hdg
          · have g1 : decide ((48 : Int) ≤ (T[k].toNat : Int)) = false := decide_eq_false (by omega)
            have g3 : decide ((97 : Int) ≤ (T[k].toNat : Int)) = false := decide_eq_false (by omega)
            have g5 : decide ((65 : Int) ≤ (T[k].toNat : Int)) = false := decide_eq_false (by omega)
            go_wp2_with fail
            go_returns
            exact SP.no HF.out hbel
          · have g1 : decide ((48 : Int) ≤ (T[k].toNat : Int)) = true := decide_eq_true (by omega)
            have g2 : decide ((T[k].toNat : Int) ≤ 57) = false := decide_eq_false (by omega)
            go_wp2_with fail
            all_goals
              go_returns
              exact SP.no HF.out hbel
      · have HTT := Lib.hid (show (byt T).take k = byt T from List.take_of_length_le (by rw [byt_len]; omega))
        rw [HTT.out] at HR HD hlc ⊢
        generalize hV : dval (byt T) = V at *
        have HF := Lib.hid (show parse (byt s) = some (if false = true then -(V : Int) else (V : Int)) from parse_ok hSg.out (by omega) HD.out hV)
        obtain ⟨e0, e1, e2, e3⟩ := HG.out
        have hg : g < w.heap.size := World.block_lt_of_cell? w _ e0
        have k0 := (hbel.cell (p := ⟨g, 0, none⟩) hg).trans e0
        have k1 := (hbel.cell (p := ⟨g, 1, none⟩) hg).trans e1
        have k2 := (hbel.frozen (p := ⟨g, 0, none⟩) hg).trans e2
        have k3 := (hbel.frozen (p := ⟨g, 1, none⟩) hg).trans e3
        have HK := Lib.hid (And.intro k0 (And.intro k1 (And.intro k2 k3)))
        clear e0 e1 e2 e3 k0 k1 k2 k3 hV
        go_wp2_with fail
        refine (give_big g false A V c x y wr HK.out.1 HK.out.2.1 HK.out.2.2.1 HK.out.2.2.2 HR.out.1 (fun b off e => by have := HR.out.2 b off e; omega) hlc).mono ?_
        rintro e w2 ⟨rfl, hB, hgb⟩
        have HB := Lib.hid hB
        clear hB
        go_wp2_with fail
        go_returns
        exact SP.yes HF.out HB.out (gb_trans (gb_below _ hbel) hgb)
end Go.Proofs.YtjegfimagjmpdaaGreatDoor
end
section
/- Numbers of any size: their length in bits, a bit, the noughts at the low end, their low 64 bits. Conditions: none. -/
set_option maxRecDepth 20000
namespace Go.Proofs.YtjegfimagjmpdaaGreatDoor
open Go.ChangeShapes Go.WideShapes Go.ChangeAt Go.RowKit
theorem andU1 (q : Nat) (h : q < 18446744073709551616) : bits .and .u64 (q : Int) 1 = ((q % 2 : Nat) : Int) := by
  show IntKind.u64.wrap ((BitVec.ofInt 64 (q : Int) &&& BitVec.ofInt 64 ((1 : Nat) : Int)).toNat : Int) = _
  rw [BitVec.toNat_and, ofIntU q h, ofIntU 1 (by omega), show (1 : Nat) = 2 ^ 1 - 1 from rfl, Nat.and_two_pow_sub_one_eq_mod, wrapU _ (by omega) (by omega)]
theorem bit_mod (M j : Nat) (hj : j < 32) : M % 4294967296 / 2 ^ j % 2 = M / 2 ^ j % 2 := by
  have h := Nat.testBit_mod_two_pow M 32 j
  rw [Nat.testBit_eq_decide_div_mod_eq, Nat.testBit_eq_decide_div_mod_eq, decide_eq_true hj, Bool.true_and] at h
  have e : (2 : Nat) ^ 32 = 4294967296 := by decide
  rw [e] at h
  have h1 := Nat.mod_lt (M % 4294967296 / 2 ^ j) (show 0 < 2 by omega)
  have h2 := Nat.mod_lt (M / 2 ^ j) (show 0 < 2 by omega)
  by_cases hb : M / 2 ^ j % 2 = 1
  · rw [decide_eq_true hb, decide_eq_true_iff] at h; omega
  · rw [decide_eq_false hb, decide_eq_false_iff_not] at h; omega
theorem bit_word (N i : Nat) : (wds N).getD (i / 32) 0 / 2 ^ (i % 32) % 2 = N / 2 ^ i % 2 := by
  rw [wds_get, bit_mod _ _ (Nat.mod_lt _ (by omega)), Nat.div_div_eq_div_mul]
  congr 2
  rw [show (4294967296 : Nat) = 2 ^ 32 by decide, ← Nat.pow_mul, ← Nat.pow_add]
  congr 1
  omega
theorem bit_val {X j : Nat} (hX : X < 4294967296) : bits .and .u64 (IntKind.u64.wrap ((X : Int) / 2 ^ j)) 1 = ((X / 2 ^ j % 2 : Nat) : Int) := by
  have e : (X : Int) / 2 ^ j = ((X / 2 ^ j : Nat) : Int) := by rw [Int.natCast_ediv, Int.natCast_pow]; rfl
  have h : X / 2 ^ j ≤ X := Nat.div_le_self _ _
  rw [e]
  generalize X / 2 ^ j = Y at *
  rw [wrapU _ (by omega) (by omega), andU1 _ (by omega)]
theorem bit_zero {N i n : Nat} (hn : n = (wds N).length) (h : n ≤ i / 32) : N / 2 ^ i % 2 = 0 := by
  have h1 : N < 2 ^ i := by
    have h2 := wv_lt (wds_lt N)
    rw [wv_wds, ← hn, show (4294967296 : Nat) = 2 ^ 32 by decide, ← Nat.pow_mul] at h2
    exact Nat.lt_of_lt_of_le h2 (Nat.pow_le_pow_right (by omega) (by omega))
  rw [Nat.div_eq_of_lt h1]
theorem length_any (A : Option Addr) (n c N : Nat) (hn : n = (wds N).length) (w : World) (B : Nat) (h : Rd w B 1 A n (u32s (wds N))) (hl : n ≤ 1000000) :
    Calls Tryz.prog 66 #[.slice A n c] w fun e w' => e = .returned (.int .i64 ((wl N : Nat) : Int)) ∧ w' = w := by
  have HN := Lib.hid hn
  clear hn
  by_cases h0 : n = 0
  · have hN : N = 0 := wds_nil.1 (List.eq_nil_of_length_eq_zero (by have := HN.out; omega))
    have HW := Lib.hid (show wl N = 0 by rw [hN, wl_zero])
    have g0 : ((n : Int) == 0) = true := by simp [h0]
    clear h0 hN
    go_enter Tryz.func66, Tryz.ntmps66
    go_wp2_with fail
    go_ret
    exact ⟨by rw [HW.out]; rfl, rfl⟩
  · have g0 : ((n : Int) == 0) = false := by simp; omega
    obtain ⟨m, rfl⟩ : ∃ m, n = m + 1 := ⟨n - 1, by omega⟩
    obtain ⟨b, off, rfl, hc⟩ := cell32 h (show m < m + 1 by omega)
    have HW := Lib.hid (show wl N = m * 32 + bl ((wds N).getD m 0) by unfold wl; rw [← HN.out]; simp)
    have hT := getD_lt (wds_lt N) m
    generalize (wds N).getD m 0 = top at *
    have HT := Lib.hid hT
    clear h hT
    go_enter Tryz.func66, Tryz.ntmps66
    go_wp2_with fail
    go_loop [3, 4] (fun n t => ∃ k q : Nat, n = .int .i64 (k : Int) ∧ t = .int .u32 (q : Int) ∧ k ≤ 32 ∧ q < 4294967296 ∧ Hid (k + bl q = bl top)) (fun _ t => (intOf t).toNat)
    case atStart => exact ⟨0, top, rfl, rfl, by omega, HT.out, Lib.hid (by omega)⟩
    case round =>
      obtain ⟨k, q, rfl, rfl, hk, hq, HB⟩ := hrel
      by_cases hq0 : q = 0
      · subst hq0
        have HE := Lib.hid (show bl top = k by rw [← HB.out, bl_zero]; rfl)
        go_wp2_with fail
        go_ret
        exact ⟨by rw [HW.out, HE.out]; simp, rfl⟩
      · have gq : ((q : Int) != 0) = true := by simp [hq0]
        have HE := Lib.hid (show k + 1 + bl (q / 2) = bl top by rw [← HB.out, bl_pos hq0]; omega)
        have hb32 := bl_le32 HT.out
        have HK := Lib.hid (show k + 1 ≤ 32 by have := HE.out; omega)
        go_wp2_with fail
        exact ⟨⟨k + 1, q / 2, by go_num, by go_num, HK.out, by omega, HE⟩, by simp [intOf]; omega⟩
theorem bit_any (A : Option Addr) (n c N i : Nat) (hn : n = (wds N).length) (w : World) (B : Nat) (h : Rd w B 1 A n (u32s (wds N))) (hl : n ≤ 1000000) (hi : i ≤ 100) :
    Calls Tryz.prog 80 #[.slice A n c, .int .i64 (i : Int)] w fun e w' => e = .returned (.int .u64 ((N / 2 ^ i % 2 : Nat) : Int)) ∧ w' = w := by
  have HN := Lib.hid hn
  clear hn
  have hi0 : ((i : Int) / 32).toNat = i / 32 := by omega
  have hi1 : decide ((i : Int) < 0) = false := decide_eq_false (by omega)
  by_cases h0 : n ≤ i / 32
  · have g0 : decide ((n : Int) ≤ (i : Int) / 32) = true := decide_eq_true (by omega)
    have HZ := Lib.hid (bit_zero HN.out h0)
    go_enter Tryz.func80, Tryz.ntmps80
    go_wp2_with fail
    go_ret
    exact ⟨by rw [HZ.out]; rfl, rfl⟩
  · have g0 : decide ((n : Int) ≤ (i : Int) / 32) = false := decide_eq_false (by omega)
    obtain ⟨b, off, rfl, hc⟩ := cell32 h (show i / 32 < n by omega)
    have hX := getD_lt (wds_lt N) (i / 32)
    have hw := bit_word N i
    generalize (wds N).getD (i / 32) 0 = X at *
    have HX := Lib.hid (And.intro hX hw)
    clear h hX hw
    go_enter Tryz.func80, Tryz.ntmps80
    go_wp2_with fail
    go_ret
    exact ⟨by rw [← HX.out.2, ← bit_val HX.out.1]; rfl, rfl⟩
/-- How many noughts at the low end, of a number of 64 bits at most. -/
theorem tz_any (g : Nat) (z : Int) (w : World) (B : Nat) (h : Big w B g z) (h0 : z ≠ 0) (h64 : z.natAbs < 18446744073709551616) :
    Calls Tryz.prog 67 #[.pointer (some ⟨g, 0, none⟩)] w fun e w' => (∃ k : Nat, e = .returned (.int .u64 (k : Int)) ∧ k < 64 ∧ z.natAbs % 2 ^ k = 0 ∧ z.natAbs / 2 ^ k % 2 = 1) ∧ ∃ n, w' = w.drewN n := by
  obtain ⟨A, c, c0, c1, hr, hl, hA, f0, f1, hg⟩ := h
  have hlen := wds_len (n := z.natAbs) (k := 2) (by rw [show (4294967296 : Nat) ^ 2 = 18446744073709551616 by decide]; exact h64)
  have hpos : 0 < (wds z.natAbs).length := by rw [List.length_pos_iff, ne_eq, wds_nil]; omega
  have hz0 : 0 < z.natAbs := by omega
  generalize z.natAbs = N at *
  have HNP := Lib.hid hz0
  have HN64 := Lib.hid h64
  generalize hn : (wds N).length = n at *
  have HN := Lib.hid hn.symm
  have HR := Lib.hid hr
  have gp : ((n : Int) == 0) = false := beq_eq_false_iff_ne.2 (by omega)
  clear hn hr hz0 hA hl h64 c0 f0 f1 h0
  go_enter Tryz.func67, Tryz.ntmps67
  go_wp2_with fail
  go_loopw [3] (fun q wr => ∃ k : Nat, q = .int .u64 (k : Int) ∧ k < 64 ∧ Hid (N % 2 ^ k = 0) ∧ ∃ m, wr = w.drewN m) (fun q _ => 64 - (intOf q).toNat)
  case atStart => exact ⟨0, rfl, by omega, Lib.hid (Nat.mod_one _), 0, rfl⟩
  case round =>
    obtain ⟨k, rfl, hk, HZ, m, rfl⟩ := hrel
    have hc1 : (w.drewN m).cell? ⟨g, 1, none⟩ = some (.slice A n c) := c1
    go_wp2_with fail
    refine (bit_any A n c N k HN.out _ B (HR.out.drewN m) (by omega) (by omega)).mono ?_
    rintro e w2 ⟨rfl, rfl⟩
    have h2 := Nat.mod_lt (N / 2 ^ k) (show 0 < 2 by omega)
    by_cases hb : N / 2 ^ k % 2 = 0
    · have HZ2 := Lib.hid (show N % 2 ^ (k + 1) = 0 by
        rw [Nat.pow_succ, Nat.mod_mul, HZ.out, hb]; simp)
      have hk1 : k + 1 < 64 := by
        rcases Nat.lt_or_ge (k + 1) 64 with h | h
        · exact h
        · exfalso
          obtain rfl : k = 63 := by omega
          have h3 := HZ2.out
          rw [show (2 : Nat) ^ (63 + 1) = 18446744073709551616 by decide] at h3
          have h4 := HN64.out
          have h5 := HNP.out
          omega
      rw [hb]
      clear hb h2
      go_wp2_with fail
      exact ⟨⟨k + 1, by go_num, hk1, HZ2, _, rfl⟩, by simp [intOf]; omega⟩
    · have hb1 : N / 2 ^ k % 2 = 1 := by omega
      have HB := Lib.hid hb1
      rw [hb1]
      clear hb hb1 h2
      go_wp2_with fail
      go_ret
      exact ⟨⟨k, rfl, hk, HZ.out, HB.out⟩, _, rfl⟩
end Go.Proofs.YtjegfimagjmpdaaGreatDoor
end
section
/- Numbers of any size: do they fit 64 bits; their 64 bits. Conditions: none. -/
set_option maxRecDepth 20000
namespace Go.Proofs.YtjegfimagjmpdaaGreatDoor
open Go.ChangeShapes Go.WideShapes Go.ChangeAt Go.RowKit
theorem isInt64_any (g : Nat) (z : Int) (w : World) (B : Nat) (h : Big w B g z) (hw9 : (wds z.natAbs).length ≤ 1000000) :
    Calls Tryz.prog 43 #[.pointer (some ⟨g, 0, none⟩)] w fun e w' => e = .returned (.bool (decide (inI z))) ∧ ∃ n, w' = w.drewN n := by
  have HBig := Lib.hid h
  obtain ⟨A, c, c0, c1, hr, hl, hA, f0, f1, hg⟩ := h
  obtain ⟨i1, i2⟩ := wl_iff z.natAbs
  have HR := Lib.hid hr
  generalize hn : (wds z.natAbs).length = n at *
  have HN := Lib.hid hn.symm
  generalize hW : wl z.natAbs = W at *
  have HW := Lib.hid hW
  clear hr hA hl hn hW
  by_cases h1 : z.natAbs < 9223372036854775808
  · have gW : decide ((W : Int) < 64) = true := decide_eq_true (by have := i1.2 h1; omega)
    have HI := Lib.hid (show decide (inI z) = true from decide_eq_true (by unfold inI; omega))
    clear i1 i2 h1
    go_enter Tryz.func43, Tryz.ntmps43
    go_wp2_with fail
    refine (length_any A n c z.natAbs HN.out w B HR.out hw9).mono ?_
    rintro e w2 ⟨rfl, rfl⟩
    rw [HW.out]
    go_wp2_with fail
    go_ret
    exact ⟨by rw [HI.out]; rfl, 0, rfl⟩
  · have gW : decide ((W : Int) < 64) = false := decide_eq_false (by have := mt i1.1; omega)
    by_cases h2 : z.natAbs < 18446744073709551616
    · have gE : ((W : Int) == 64) = true := by rw [beq_iff_eq]; have := i2.2 ⟨by omega, h2⟩; omega
      by_cases hz : z < 0
      · rw [decide_eq_true hz] at c0
        have HH := Lib.hid (And.intro h1 (And.intro h2 hz))
        clear i1 i2 h1 h2 hz
        go_enter Tryz.func43, Tryz.ntmps43
        go_wp2_with fail
        refine (length_any A n c z.natAbs HN.out w B HR.out hw9).mono ?_
        rintro e w2 ⟨rfl, rfl⟩
        rw [HW.out]
        go_wp2_with fail
        refine (tz_any g z _ B HBig.out (by have := HH.out.2.2; omega) HH.out.2.1).mono ?_
        rintro e w3 ⟨⟨k, rfl, hk, hk1, hk2⟩, m, rfl⟩
        have hkk : k = 63 ↔ z.natAbs = 9223372036854775808 := by
          have h3 := HH.out
          constructor
          · rintro rfl
            rw [show (2 : Nat) ^ 63 = 9223372036854775808 by decide] at hk1
            omega
          · intro e
            rw [e] at hk1 hk2
            rcases Nat.lt_or_ge k 63 with hlt | hge
            · exfalso
              obtain ⟨d, rfl⟩ : ∃ d, d = 62 - k := ⟨_, rfl⟩
              have e2 : 9223372036854775808 = 2 ^ k * (2 * 2 ^ (62 - k)) := by
                rw [← Nat.pow_succ', ← Nat.pow_add, show k + (62 - k).succ = 63 by omega]
              rw [e2, Nat.mul_div_cancel_left _ (Nat.two_pow_pos k)] at hk2
              omega
            · omega
        have HK := Lib.hid hkk
        clear hkk hk1 hk2
        by_cases h63 : k = 63
        · have g63 : ((k : Int) == 63) = true := by simp [h63]
          have HI := Lib.hid (show decide (inI z) = true from decide_eq_true (by
            have := HK.out.1 h63
            have := HH.out.2.2
            unfold inI; omega))
          clear h63
          go_wp2_with fail
          go_ret
          exact ⟨by rw [HI.out]; rfl, m, rfl⟩
        · have g63 : ((k : Int) == 63) = false := beq_eq_false_iff_ne.2 (by omega)
          have HI := Lib.hid (show decide (inI z) = false from decide_eq_false (by
            have h5 := mt HK.out.2 h63
            have h6 := HH.out
            unfold inI; omega))
          clear h63
          go_wp2_with fail
          go_ret
          exact ⟨by rw [HI.out]; rfl, m, rfl⟩
      · rw [decide_eq_false hz] at c0
        have HI := Lib.hid (show decide (inI z) = false from decide_eq_false (by unfold inI; omega))
        clear i1 i2 h1 h2 hz
        go_enter Tryz.func43, Tryz.ntmps43
        go_wp2_with fail
        refine (length_any A n c z.natAbs HN.out w B HR.out hw9).mono ?_
        rintro e w2 ⟨rfl, rfl⟩
        rw [HW.out]
        go_wp2_with fail
        go_ret
        exact ⟨by rw [HI.out]; rfl, 0, rfl⟩
    · have gE : ((W : Int) == 64) = false := beq_eq_false_iff_ne.2 (by have := mt i2.1; omega)
      have HI := Lib.hid (show decide (inI z) = false from decide_eq_false (by unfold inI; omega))
      clear i1 i2 h1 h2
      go_enter Tryz.func43, Tryz.ntmps43
      go_wp2_with fail
      refine (length_any A n c z.natAbs HN.out w B HR.out hw9).mono ?_
      rintro e w2 ⟨rfl, rfl⟩
      rw [HW.out]
      go_wp2_with fail
      go_ret
      exact ⟨by rw [HI.out]; rfl, 0, rfl⟩
theorem or_hi (x y : Nat) (hx : x < 4294967296) (hy : y < 4294967296) : bits .or .u64 (x : Int) ((y : Int) * 4294967296) = ((x + 4294967296 * y : Nat) : Int) := by
  have e : x ||| y * 4294967296 = x + 4294967296 * y := by
    rw [or_add (s := 32) (by simpa using hx) ⟨y, by rw [Nat.mul_comm]⟩]; omega
  have := orU x (y * 4294967296) (by omega) (by omega) (by rw [e]; omega)
  rw [e] at this
  rw [← this]
  congr 1
theorem uint64_any (g : Nat) (z : Int) (w : World) (B : Nat) (h : Big w B g z) (hz : z.natAbs < 18446744073709551616) :
    Calls Tryz.prog 68 #[.pointer (some ⟨g, 0, none⟩)] w fun e w' => e = .returned (.int .u64 (z.natAbs : Int)) ∧ ∃ n, w' = w.drewN n := by
  obtain ⟨A, c, c0, c1, hr, hl, hA, f0, f1, hg⟩ := h
  generalize z.natAbs = N at *
  by_cases h0 : N = 0
  · subst h0
    rw [wds_zero] at c1
    clear c0 hr
    go_enter Tryz.func68, Tryz.ntmps68
    go_wp2_with fail
    go_ret
    exact ⟨rfl, 0, rfl⟩
  · by_cases h1 : N < 4294967296
    · rw [wds_one h1 h0] at c1 hr
      obtain ⟨b, off, rfl, hc⟩ := cell32 hr (show 0 < 1 by omega)
      rw [Nat.add_zero] at hc
      have hc' : w.cell? ⟨b, off, none⟩ = some (.int .u32 (N : Int)) := hc
      clear c0 hr hc
      go_enter Tryz.func68, Tryz.ntmps68
      go_wp2_with fail
      go_ret
      exact ⟨rfl, 0, rfl⟩
    · have e2 : wds N = [N % 4294967296, N / 4294967296] := by
        rw [wds_pos h0, wds_one (by omega) (by omega)]
      rw [e2] at c1 hr
      obtain ⟨b, off, rfl, hc⟩ := cell32 hr (show 0 < 2 by omega)
      obtain ⟨b', off', e, hd⟩ := cell32 hr (show 1 < 2 by omega)
      injection e with e
      injection e with e e'
      subst e e'
      rw [Nat.add_zero] at hc
      obtain ⟨x, hx⟩ : ∃ x, x = N % 4294967296 := ⟨_, rfl⟩
      obtain ⟨y, hy⟩ : ∃ y, y = N / 4294967296 := ⟨_, rfl⟩
      have hc' : w.cell? ⟨b, off, none⟩ = some (.int .u32 (x : Int)) := by rw [hx]; exact hc
      have hd' : w.cell? ⟨b, off + 1, none⟩ = some (.int .u32 (y : Int)) := by rw [hy]; exact hd
      have hO := or_hi x y (by omega) (by omega)
      rw [show x + 4294967296 * y = N by omega] at hO
      have hxl : x < 4294967296 := by omega
      have hyl : y < 4294967296 := by omega
      clear c0 hr hc hd hx hy
      go_enter Tryz.func68, Tryz.ntmps68
      go_wp2_with fail
      go_ret
      exact ⟨rfl, 0, rfl⟩
theorem int64_any (g : Nat) (z : Int) (w : World) (B : Nat) (h : Big w B g z) (hz : inI z) :
    Calls Tryz.prog 44 #[.pointer (some ⟨g, 0, none⟩)] w fun e w' => e = .returned (.int .i64 z) ∧ ∃ n, w' = w.drewN n := by
  have HBig := Lib.hid h
  have HZ := Lib.hid (show z.natAbs < 18446744073709551616 by unfold inI at hz; omega)
  obtain ⟨A, c, c0, c1, hr, hl, hA, f0, f1, hg⟩ := h
  have HI := Lib.hid (show (z < 0 → RowKit.wrap64 (-RowKit.wrap64 (z.natAbs : Int)) = z) ∧ (¬ z < 0 → RowKit.wrap64 (z.natAbs : Int) = z) by
    unfold inI at hz
    refine ⟨fun hn => ?_, fun hn => ?_⟩
    · rcases Nat.lt_or_ge z.natAbs 9223372036854775808 with h | h
      · have e : RowKit.wrap64 (z.natAbs : Int) = (z.natAbs : Int) := by unfold RowKit.wrap64; omega
        rw [e]; unfold RowKit.wrap64; omega
      · obtain rfl : z = -9223372036854775808 := by omega
        decide +kernel
    · unfold RowKit.wrap64; omega)
  by_cases hn : z < 0
  · rw [decide_eq_true hn] at c0
    have HE := Lib.hid (HI.out.1 hn)
    clear hn hr hA hz
    go_enter Tryz.func44, Tryz.ntmps44
    go_wp2_with fail
    refine (uint64_any g z w B HBig.out HZ.out).mono ?_
    rintro e w2 ⟨rfl, n, rfl⟩
    generalize z.natAbs = N at *
    go_wp2_with fail
    go_ret
    exact ⟨by rw [← HE.out]; rfl, n, rfl⟩
  · rw [decide_eq_false hn] at c0
    have HE := Lib.hid (HI.out.2 hn)
    clear hn hr hA hz
    go_enter Tryz.func44, Tryz.ntmps44
    go_wp2_with fail
    refine (uint64_any g z w B HBig.out HZ.out).mono ?_
    rintro e w2 ⟨rfl, n, rfl⟩
    generalize z.natAbs = N at *
    go_wp2_with fail
    go_ret
    exact ⟨by rw [← HE.out]; rfl, n, rfl⟩
end Go.Proofs.YtjegfimagjmpdaaGreatDoor
end
section
/- Plain: a list reversed in place. Conditions: none. -/
namespace Go.Proofs.YtjegfimagjmpdaaGreatDoor
/-- A list that is being reversed in place: i exchanges are done. -/
def Rvd {α : Type} (L xs : List α) (i : Nat) : Prop := xs.length = L.length ∧ 2 * i ≤ L.length ∧ ∀ k, k < L.length → xs[k]? = if k < i ∨ L.length - i ≤ k then L[L.length - 1 - k]? else L[k]?
theorem Rvd.start {α : Type} (L : List α) : Rvd L L 0 := ⟨rfl, by omega, fun k hk => by rw [if_neg (by omega)]⟩
theorem Rvd.step {α : Type} {L xs : List α} {i j : Nat} {p q : α} (h : Rvd L xs i) (hj : j + i + 1 = L.length) (hi : i < j) (hp : L[i]? = some p) (hq : L[j]? = some q) : Rvd L ((xs.set i q).set j p) (i + 1) := by
  obtain ⟨h1, h2, h3⟩ := h
  refine ⟨by simp [h1], by omega, fun k hk => ?_⟩
  rw [List.getElem?_set, List.getElem?_set]
  by_cases e1 : j = k
  · subst e1
    simp [h1, hk]
    rw [if_pos (by omega), ← hp]
    congr 1; omega
  · by_cases e2 : i = k
    · subst e2
      simp [h1, hk, e1]
      rw [← hq]
      congr 1; omega
    · rw [if_neg e1, if_neg e2, h3 k hk]
      by_cases e3 : k < i ∨ L.length - i ≤ k
      · rw [if_pos e3, if_pos (by omega)]
      · rw [if_neg e3, if_neg (by omega)]
theorem Rvd.at {α : Type} {L xs : List α} {i k : Nat} (h : Rvd L xs i) (h1 : i ≤ k) (h2 : k + i < L.length) : xs[k]? = L[k]? := by
  rw [h.2.2 k (by omega), if_neg (by omega)]
theorem Rvd.done {α : Type} {L xs : List α} {i : Nat} (h : Rvd L xs i) (hi : L.length ≤ 2 * i + 1) : xs = L.reverse := by
  obtain ⟨h1, h2, h3⟩ := h
  apply List.ext_getElem?
  intro k
  by_cases hk : k < L.length
  · rw [h3 k hk, List.getElem?_reverse hk]
    split
    · rfl
    · congr 1; omega
  · rw [List.getElem?_eq_none (by omega), List.getElem?_eq_none (by simp; omega)]
end Go.Proofs.YtjegfimagjmpdaaGreatDoor
end
section
/- The decimal text of a number of any size. Conditions: none. -/
set_option maxRecDepth 20000
namespace Go.Proofs.YtjegfimagjmpdaaGreatDoor
open Go.ChangeShapes Go.WideShapes Go.ChangeAt Go.RowKit
def lenOf : Value → Nat | .slice _ n _ => n | _ => 0
/-- The digits of what is still to be told: none of 0. -/
def dz (q : Nat) : List Nat := if q = 0 then [] else dd q
theorem dz_step {q : Nat} (h : q ≠ 0) : dz q = dz (q / 10) ++ [48 + q % 10] := by
  unfold dz
  rw [if_neg h]
  by_cases h1 : q < 10
  · rw [if_pos (by omega), dd_lt h1, Nat.mod_eq_of_lt h1]; rfl
  · rw [if_neg (by omega), dd_ge h1]
/-- What the loop of the digits keeps. -/
def Dg (B : Nat) (W : World) (t : TypeId) (N : Nat) (b a : Value) (wr : World) : Prop :=
  ∃ (q : Nat) (A A2 : Option Addr) (c c2 : Nat) (bs : List Nat), a = .slice A (wds q).length c ∧ Rd wr wr.heap.size 1 A (wds q).length (u32s (wds q)) ∧ b = .slice A2 bs.length c2 ∧ wr.ownsRow B t 1 b bs.length (u8s bs) ∧ dz q ++ bs.reverse = dz N ∧ q ≤ N ∧ Below B W wr
theorem wds_mono {a b : Nat} (h : a ≤ b) : (wds a).length ≤ (wds b).length := by
  rcases Nat.lt_or_ge (wds b).length (wds a).length with h1 | h1
  · have := wds_len_lt h1; omega
  · exact h1
theorem Dg.start {W w1 : World} {B : Nat} {t : TypeId} {N c1 : Nat} {A1 : Option Addr} {B2 : Nat} {e : TypeId} (hown : w1.ownsRow B2 e 1 (.slice A1 (wds N).length c1) (wds N).length (u32s (wds N))) (hb : Below B W w1) : Dg B W t N (.slice none 0 0) (.slice A1 (wds N).length c1) w1 :=
  ⟨N, A1, none, c1, 0, [], rfl, Rd.of_own hown, rfl, World.ownsRow_nil _ _ _ _, by simp, Nat.le_refl _, hb⟩
theorem Rd.fresh {w w2 w3 : World} {size n B k0 : Nat} {A : Option Addr} {xs : List Value} {e : TypeId} {v : Value} {o : Obj} {m : Nat} {ys : List Value} (h : Rd w2 w2.heap.size size A n xs) (hA : ∀ b off, A = some ⟨b, off, none⟩ → w.heap.size ≤ b) (hown : w.ownsRow B e k0 v m ys) (hg : (w2.alloc o).grownBy w3 v.ownBlock) : Rd w3 w3.heap.size size A n xs := by
  have hs := hg.size
  simp at hs
  refine ⟨h.1, fun hn => ?_⟩
  obtain ⟨b, off, rfl, hb, hc⟩ := h.2 hn
  have h1 := hA b off rfl
  have hk : w3.heap[b]? = w2.heap[b]? := by
    rw [hg.block b (by simp; omega) (fun e => by have := (hown.lt b e.symm).2; omega), show (w2.alloc o).heap[b]? = w2.heap[b]? from heap_alloc_old w2 o hb]
  exact ⟨b, off, rfl, by omega, fun j u hu => (World.cell?_of_block (a := ⟨b, off + j, none⟩) hk).trans (hc j u hu)⟩
theorem Dg.step {B : Nat} {W wr w2 w3 : World} {t : TypeId} {N q c4 c5 m : Nat} {bs : List Nat} {A4 A5 : Option Addr} {v : Value} {o : Obj} (hq0 : q ≠ 0) (hq : q ≤ N) (hm : q % 10 = m) (hd : dz q ++ bs.reverse = dz N) (hown : wr.ownsRow B t 1 v bs.length (u8s bs)) (hrd : Rd w2 w2.heap.size 1 A4 (wds (q / 10)).length (u32s (wds (q / 10))))
    (hA4 : ∀ b off, A4 = some ⟨b, off, none⟩ → wr.heap.size ≤ b) (hb4 : Below wr.heap.size wr w2) (hown3 : w3.ownsRow B t 1 (.slice A5 (bs.length + 1) c5) (bs.length + 1) (u8s bs ++ [.int .u8 (48 + (m : Int))])) (hg : (w2.alloc o).grownBy w3 v.ownBlock) (hbel : Below B W wr) (hB : B ≤ wr.heap.size) :
    Dg B W t N (.slice A5 (bs.length + 1) c5) (.slice A4 (wds (q / 10)).length c4) w3 := by
  refine ⟨q / 10, A4, A5, c4, c5, bs ++ [48 + m], rfl, hrd.fresh hA4 hown hg, by simp, ?_, ?_, by omega, ?_⟩
  · have e : u8s (bs ++ [48 + m]) = u8s bs ++ [.int .u8 (48 + (m : Int))] := by rw [u8s_app, u8s_cons, u8s_nil]; simp
    rw [e]
    simpa using hown3
  · rw [← hd, dz_step hq0, hm]; simp
  · have h1 : Below B W w2 := hbel.trans (hb4.mono hB)
    exact (h1.alloc (Nat.le_trans hB hb4.size) o).grown hg (Nat.le_trans hB (Nat.le_trans hb4.size (by simp))) (fun k hk => (hown.lt k hk).1)
/-- What the loop that turns the digits round keeps. -/
def Rv (B : Nat) (W : World) (t : TypeId) (g c n : Nat) (L : List Nat) (i j : Value) (wr : World) : Prop :=
  ∃ (k : Nat) (z : Int) (xs : List Nat), i = .int .i64 (k : Int) ∧ j = .int .i64 z ∧ z + k + 1 = n ∧ k ≤ n ∧ Rvd L xs k ∧ wr.ownsRow B t 1 (.slice (some ⟨g, 0, none⟩) n c) n (u8s xs) ∧ Below B W wr
theorem Rv.start {B : Nat} {W wr : World} {t : TypeId} {g c n : Nat} {L : List Nat} {z : Int} (hz : z + 1 = n) (hown : wr.ownsRow B t 1 (.slice (some ⟨g, 0, none⟩) n c) n (u8s L)) (hb : Below B W wr) : Rv B W t g c n L (.int .i64 0) (.int .i64 z) wr :=
  ⟨0, z, L, rfl, rfl, by omega, by omega, Rvd.start L, hown, hb⟩
theorem u8s_get {l : List Nat} {k a : Nat} (h : l[k]? = some a) : (u8s l)[k]? = some (.int .u8 (a : Int)) := by simp [u8s, h]
theorem u8s_set (l : List Nat) (j x : Nat) : (u8s l).set j (.int .u8 (x : Int)) = u8s (l.set j x) := by simp [u8s, List.map_set]
theorem intText_any (g : Nat) (z : Int) (w : World) (h : Big w w.heap.size g z) (hz : (dd z.natAbs).length ≤ 100) (hw9 : (wds z.natAbs).length ≤ 1000000) :
    Calls Tryz.prog 65 #[.pointer (some ⟨g, 0, none⟩), .int .i64 10] w fun e w' => e = .returned (.string (decS z)) ∧ Below w.heap.size w w' := by
  obtain ⟨i0, hi, hz0, hz1, hz2⟩ := info_parts info_u8
  obtain ⟨A, c, h0, h1, hr, hl, hA, f0, f1, hg⟩ := h
  by_cases hzz : z = 0
  · subst hzz
    have e0 : (wds (Int.natAbs 0)).length = 0 := by rw [show Int.natAbs 0 = 0 from rfl, wds_zero]; rfl
    rw [e0] at h1
    go_enter Tryz.func65, Tryz.ntmps65
    go_wp2_with fail
    go_ret
    exact ⟨by rw [show decS 0 = ⟨#[48]⟩ by rw [decS, decL, if_neg (by omega), show Int.natAbs 0 = 0 from rfl, dd_lt (by omega)]; rfl]; rfl, Below.refl _ _⟩
  · have hp : 0 < (wds z.natAbs).length := by rw [List.length_pos_iff, ne_eq, wds_nil]; omega
    go_enter Tryz.func65, Tryz.ntmps65
    go_wp2_with fail
    refine (twin_any A _ c (wds z.natAbs) _ hr hw9).mono ?_
    rintro e w1 ⟨A1, c1, rfl, hown1, hb1⟩
    go_wp2_with fail
    go_loopw [5, 6] (fun b a wr => Dg w.heap.size w 5 z.natAbs b a wr) (fun b _ _ => 101 - lenOf b)
    case atStart => exact Dg.start hown1 hb1
    case round =>
      obtain ⟨q, A3, A2, c3, c2, bs, rfl, hrd, rfl, hown, hd, hq, hbel⟩ := hrel
      have hlen : (dz q).length + bs.length ≤ 100 := by
        have := congrArg List.length hd
        simp at this
        rw [this]; unfold dz; split
        · simp
        · exact hz
      have hwl := wds_mono hq
      have HD := Lib.hid hd
      clear hd hown1 hb1
      by_cases hq0 : q = 0
      · subst hq0
        rw [wds_zero] at *
        have k0 : wr.cell? ⟨g, 0, none⟩ = some (.bool (decide (z < 0))) := (hbel.cell (p := ⟨g, 0, none⟩) hg).trans h0
        have hbd : bs.reverse = dd z.natAbs := by
          have := HD.out
          unfold dz at this
          rw [if_pos rfl, if_neg (by omega), List.nil_append] at this
          exact this
        have HB := Lib.hid hbd
        have hbp : 0 < bs.length := by
          have := congrArg List.length hbd
          have := dd_pos z.natAbs
          simp at *; omega
        have hbl : bs.length ≤ 100 := by omega
        clear h0 h1 HD hbd hlen hrd hwl hq hz
        by_cases hneg : z < 0
        · rw [show decide (z < 0) = true by simp [hneg]] at k0
          go_wp2_with (at_builtin; refine wpList_append_rd _ rfl _ _ 58 rfl w.heap.size 5 i0 _ 1 1 Tryz.underlying58 hi hz0 hz1 hz2 rfl (by omega) _ _ _ rfl (hown.alloc _) _ _ 1 1 [_] rfl (Rd.lit1 _ _ _) (one1 rfl) (by unfold maxLen; omega) (by omega) (Nat.le_trans hbel.size (by simp)) ?_; intro A5 c5 w3 hown3 hgrow3 _)
          obtain ⟨g5, cp, hv5, _, _⟩ := hown3.form (by omega)
          injection hv5 with hv1 hv2 hv3
          subst hv1 hv3
          have HL := Lib.hid (show bs.length + 1 = (bs ++ [45]).length by simp)
          have hown4 : w3.ownsRow w.heap.size 5 1 (.slice (some ⟨g5, 0, none⟩) (bs.length + 1) c5) (bs.length + 1) (u8s (bs ++ [45])) := by rw [u8s_app, u8s_cons, u8s_nil]; simpa using hown3
          have hg5 := (hown4.lt g5 rfl).1
          have hbel3 : Below w.heap.size w w3 := below_grown (hbel.alloc hbel.size _) (Nat.le_trans hbel.size (by simp)) (hown.alloc _) (Nat.le_refl _) hgrow3
          clear hgrow3 hown3
          go_loopw [8, 9] (fun i j wr' => Rv w.heap.size w 5 g5 c5 (bs.length + 1) (bs ++ [45]) i j wr') (fun _ j _ => (intOf j + 1).toNat)
          case atStart => exact Rv.start (by omega) hown4 hbel3
          case round =>
            obtain ⟨k, z2, xs, rfl, rfl, hz2, hkn, hRv, hown5, hbel5⟩ := hrel
            have HRv := Lib.hid hRv
            clear hRv
            by_cases hlt : (k : Int) < z2
            · obtain ⟨j, rfl⟩ := Int.eq_ofNat_of_zero_le (show 0 ≤ z2 by omega)
              obtain ⟨p, hp5⟩ : ∃ p, ((bs ++ [45]) : List Nat)[k]? = some p := ⟨_, List.getElem?_eq_getElem (by have := HL.out; omega)⟩
              obtain ⟨q, hq5⟩ : ∃ q, ((bs ++ [45]) : List Nat)[j]? = some q := ⟨_, List.getElem?_eq_getElem (by have := HL.out; omega)⟩
              have cp5 := hown5.cellAt k (by omega)
              have cq5 := hown5.cellAt j (by omega)
              rw [u8s_get ((HRv.out.at (by omega) (by have := HL.out; omega)).trans hp5)] at cp5
              rw [u8s_get ((HRv.out.at (by omega) (by have := HL.out; omega)).trans hq5)] at cq5
              have fp5 := hown5.frozenAt k
              have fq5 := hown5.frozenAt j
              have hst1 := (hown5.stored k (.int .u8 (q : Int))).1
              have hst2 := (hst1.stored j (.int .u8 (p : Int))).1
              rw [u8s_set, u8s_set] at hst2
              have HST := Lib.hid (And.intro hst2 (HRv.out.step (by have := HL.out; omega) (by omega) hp5 hq5))
              have hkj : ¬ k = j := by omega
              clear hst1 hst2 hp5 hq5
              go_wp2
              go_roundw
              case rel => exact ⟨k + 1, (j : Int) - 1, _, by go_num, rfl, by omega, by omega, HST.out.2, HST.out.1, (hbel5.setCell (by omega) _).setCell (by omega) _⟩
              case measure => simp [intOf]
            · have hdone := HRv.out.done (by have := HL.out; omega)
              have hx := run_str_u8s (P := Tryz.prog) (c := c5) (Rd.of_own hown5) 58 5 9 Tryz.underlying58 Tryz.underlying5 Tryz.underlying9
              have hfin : (bs ++ [45]).reverse = decL z := by rw [List.reverse_append, HB.out, decL, if_pos hneg]; rfl
              rw [hdone, hfin] at hx
              clear hdone hfin
              go_wp2_with (simp only [hx])
              go_ret
              exact ⟨rfl, hbel5⟩
        · rw [show decide (z < 0) = false by simp [hneg]] at k0
          obtain ⟨g5, cp, hv5, _, _⟩ := hown.form hbp
          injection hv5 with hv1 hv2 hv3
          subst hv1 hv3
          have HL := Lib.hid (show bs.length = bs.length from rfl)
          have hg5 := (hown.lt g5 rfl).1
          go_wp2_with fail
          go_loopw [8, 9] (fun i j wr' => Rv w.heap.size w 5 g5 c2 bs.length bs i j wr') (fun _ j _ => (intOf j + 1).toNat)
          case atStart => exact Rv.start (by omega) hown hbel
          case round =>
            obtain ⟨k, z2, xs, rfl, rfl, hz2, hkn, hRv, hown5, hbel5⟩ := hrel
            have HRv := Lib.hid hRv
            clear hRv
            by_cases hlt : (k : Int) < z2
            · obtain ⟨j, rfl⟩ := Int.eq_ofNat_of_zero_le (show 0 ≤ z2 by omega)
              obtain ⟨p, hp5⟩ : ∃ p, (bs : List Nat)[k]? = some p := ⟨_, List.getElem?_eq_getElem (by have := HL.out; omega)⟩
              obtain ⟨q, hq5⟩ : ∃ q, (bs : List Nat)[j]? = some q := ⟨_, List.getElem?_eq_getElem (by have := HL.out; omega)⟩
              have cp5 := hown5.cellAt k (by omega)
              have cq5 := hown5.cellAt j (by omega)
              rw [u8s_get ((HRv.out.at (by omega) (by have := HL.out; omega)).trans hp5)] at cp5
              rw [u8s_get ((HRv.out.at (by omega) (by have := HL.out; omega)).trans hq5)] at cq5
              have fp5 := hown5.frozenAt k
              have fq5 := hown5.frozenAt j
              have hst1 := (hown5.stored k (.int .u8 (q : Int))).1
              have hst2 := (hst1.stored j (.int .u8 (p : Int))).1
              rw [u8s_set, u8s_set] at hst2
              have HST := Lib.hid (And.intro hst2 (HRv.out.step (by have := HL.out; omega) (by omega) hp5 hq5))
              have hkj : ¬ k = j := by omega
              clear hst1 hst2 hp5 hq5
              go_wp2
              go_roundw
              case rel => exact ⟨k + 1, (j : Int) - 1, _, by go_num, rfl, by omega, by omega, HST.out.2, HST.out.1, (hbel5.setCell (by omega) _).setCell (by omega) _⟩
              case measure => simp [intOf]
            · have hdone := HRv.out.done (by have := HL.out; omega)
              have hx := run_str_u8s (P := Tryz.prog) (c := c2) (Rd.of_own hown5) 58 5 9 Tryz.underlying58 Tryz.underlying5 Tryz.underlying9
              have hfin : bs.reverse = decL z := by rw [HB.out, decL, if_neg (by omega)]
              rw [hdone, hfin] at hx
              clear hdone hfin
              go_wp2_with (simp only [hx])
              go_ret
              exact ⟨rfl, hbel5⟩
      · have hp3 : 0 < (wds q).length := by rw [List.length_pos_iff, ne_eq, wds_nil]; exact hq0
        have hs := dz_step hq0
        have HS := Lib.hid hs
        rw [hs] at hlen
        simp at hlen
        clear hs
        go_wp2_with fail
        have hsm := small_any A3 c3 (wds q) (wds_lt q) 10 (by omega) (by omega) wr hrd (by omega)
        rw [wv_wds] at hsm
        refine hsm.mono ?_
        rintro e w2 ⟨A4, c4, rfl, hrd4, hlc4, hA4, hb4⟩
        have hmod : q % 10 < 10 := Nat.mod_lt _ (by omega)
        generalize hmm : q % 10 = m at *
        clear hsm
        go_wp2_with (at_builtin; refine wpList_append_rd _ rfl _ _ 58 rfl w.heap.size 5 i0 _ 1 1 Tryz.underlying58 hi hz0 hz1 hz2 rfl (by omega) _ _ _ rfl ((own_below hown hb4).alloc _) _ _ 1 1 [_] rfl (Rd.lit1 _ _ _) (one1 rfl) (by unfold maxLen; omega) (by omega) (Nat.le_trans hbel.size (Nat.le_trans hb4.size (by simp))) ?_; intro A5 c5 w3 hown3 hgrow3 _)
        go_roundw
        case rel => exact Dg.step hq0 hq hmm HD.out hown hrd4 hA4 hb4 hown3 hgrow3 hbel hbel.size
        case measure => simp [lenOf]; omega
theorem intString_any (g : Nat) (z : Int) (w : World) (h : Big w w.heap.size g z) (hz : (dd z.natAbs).length ≤ 100) (hw9 : (wds z.natAbs).length ≤ 1000000) :
    Calls Tryz.prog 42 #[.pointer (some ⟨g, 0, none⟩)] w fun e w' => e = .returned (.string (decS z)) ∧ Below w.heap.size w w' := by
  have H := Lib.hid h
  clear h
  go_enter Tryz.func42, Tryz.ntmps42
  go_wp2_with fail
  refine (intText_any g z w H.out hz hw9).mono ?_
  rintro e w1 ⟨rfl, hb⟩
  go_wp2_with fail
  go_ret
  exact ⟨rfl, hb⟩
end Go.Proofs.YtjegfimagjmpdaaGreatDoor
end
section
/- (the contract alone) The document's ReadNumber; the law WordReads. Conditions: none. -/
set_option maxRecDepth 20000
namespace Go.Proofs.YtjegfimagjmpdaaGreatDoor
open Go.ChangeShapes Go.WideShapes Go.ChangeAt Go.RowKit
theorem setStr_empty (g : Nat) (s : ByteArray) (w : World) (hz : s.size = 0) : Calls Tryz.prog 41 #[.pointer (some ⟨g, 0, none⟩), .string s, .int .i64 10] w (SP g s w) := by
  have HF := Lib.hid (show parse (byt s) = none by
    have : byt s = [] := List.eq_nil_of_length_eq_zero (by rw [byt_len]; exact hz)
    rw [this]; rfl)
  have gz0 : ((s.size : Int) == 0) = true := by simp [hz]
  have hle : s.size ≤ 0 := by omega
  clear hz
  go_enter Tryz.func41, Tryz.ntmps41
  go_wp2_with fail
  go_returns
  exact SP.no HF.out (Below.refl _ _)
theorem sgn_no {s : ByteArray} (h : 0 < s.size) (h1 : s[0] ≠ 45) (h2 : s[0] ≠ 43) : sgn (byt s) = (false, byt s) := by
  have := byt_drop s 0 h
  rw [List.drop_zero] at this
  rw [this]
  simp only [sgn]
  rw [if_neg (show ¬ s[0].toNat = 45 from fun e => h1 (UInt8.toNat_inj.1 e)), if_neg (show ¬ s[0].toNat = 43 from fun e => h2 (UInt8.toNat_inj.1 e))]
theorem sgn_minus {s : ByteArray} (h : 0 < s.size) (hc : s[0] = 45) : sgn (byt s) = (true, byt (s.extract 1 s.size)) := by
  have := byt_drop s 0 h
  rw [List.drop_zero] at this
  rw [byt_extract, List.take_of_length_le (by rw [byt_len]; omega)]
  conv => lhs; rw [this]
  simp only [sgn]
  rw [if_pos (show s[0].toNat = 45 by rw [hc]; rfl)]
theorem sgn_plus {s : ByteArray} (h : 0 < s.size) (hc : s[0] = 43) : sgn (byt s) = (false, byt (s.extract 1 s.size)) := by
  have := byt_drop s 0 h
  rw [List.drop_zero] at this
  rw [byt_extract, List.take_of_length_le (by rw [byt_len]; omega)]
  conv => lhs; rw [this]
  simp only [sgn]
  rw [if_neg (show ¬ s[0].toNat = 45 by rw [hc]; decide), if_pos (show s[0].toNat = 43 by rw [hc]; rfl)]
theorem setStr_any (g : Nat) (s : ByteArray) (x y : Value) (w : World) (h0 : w.cell? ⟨g, 0, none⟩ = some x) (h1 : w.cell? ⟨g, 1, none⟩ = some y) (f0 : w.frozen? ⟨g, 0, none⟩ = false) (f1 : w.frozen? ⟨g, 1, none⟩ = false) (hs : s.size ≤ 20) : Calls Tryz.prog 41 #[.pointer (some ⟨g, 0, none⟩), .string s, .int .i64 10] w (SP g s w) := by
  by_cases hz : s.size = 0
  · exact setStr_empty g s w hz
  · have h : 0 < s.size := by omega
    by_cases hc1 : s[0] = 45
    · exact setStr_minus g s _ x y w h0 h1 f0 f1 hs h hc1 rfl (sgn_minus h hc1)
    · by_cases hc2 : s[0] = 43
      · exact setStr_plus g s _ x y w h0 h1 f0 f1 hs h hc2 rfl (sgn_plus h hc2)
      · exact setStr_plain g s x y w h0 h1 f0 f1 hs h hc1 hc2 (sgn_no h hc1 hc2)
theorem parse_bound {l : List Nat} {z : Int} (hl : l.length ≤ 20) (h : parse l = some z) : z.natAbs < 10 ^ 20 := by
  unfold parse at h
  split at h
  · rename_i hc
    have h1 := dval_lt _ hc.2
    have h2 : (sgn l).2.length ≤ l.length := by
      cases l with
      | nil => simp [sgn]
      | cons c r =>
        simp only [sgn]
        split
        · simp
        · split <;> simp
    have h3 : (10 : Nat) ^ (sgn l).2.length ≤ 10 ^ 20 := Nat.pow_le_pow_right (by omega) (by omega)
    injection h with h
    subst h
    split <;> omega
  · cases h
theorem rd_of_parse {l : List Nat} {z : Int} (h : parse l = some z) : rd l = if decL z = l ∧ inI z then some z else none := by unfold rd; rw [h]
theorem rd_of_none {l : List Nat} (h : parse l = none) : rd l = none := by unfold rd; rw [h]
set_option maxHeartbeats 1000000 in
theorem readNumber_any (s : ByteArray) (w : World) : Calls Tryz.prog 28 #[.string s] w fun e w' => e = .returned (readV s) ∧ Below w.heap.size w w' := by
  by_cases hl : 20 < s.size
  · have HF := Lib.hid (readV_none (rd_long hl))
    go_enter Tryz.func28, Tryz.ntmps28
    go_wp2_with fail
    go_returns
    exact ⟨by rw [HF.out]; rfl, Below.refl _ _⟩
  · go_enter Tryz.func28, Tryz.ntmps28
    go_wp2_with fail
    refine (setStr_any w.heap.size s _ _ _ (by simp; rfl) (by simp; rfl) (by simp) (by simp) (by omega)).mono ?_
    rintro e w2 (⟨z, hp, rfl, hB, hg⟩ | ⟨hp, rfl, hg⟩)
    · have hbd := parse_bound (by rw [byt_len]; omega) hp
      have hdd := dd_len 19 z.natAbs hbd
      have hwl := wds_len (n := z.natAbs) (k := 3) (Nat.lt_trans hbd (by decide))
      have hr := rd_of_parse hp
      have HB := Lib.hid hB
      have hBel : Below w.heap.size w w2 := below_gb (al _) (by simp) (Nat.le_refl _) hg
      have HBel := Lib.hid hBel
      have hbq := decS_beq z s
      clear hp hB hg hBel hbd
      by_cases he : decL z = byt s
      · rw [decide_eq_true he] at hbq
        by_cases hi : inI z
        · have HF := Lib.hid (readV_some (hr.trans (if_pos ⟨he, hi⟩)))
          have HI := Lib.hid hi
          clear he hi hr
          go_wp2_with fail
          refine (intString_any w.heap.size z w2 HB.out (by omega) (by omega)).mono ?_
          rintro e w3 ⟨rfl, hb3⟩
          have HB3 := Lib.hid (HB.out.into (Nat.le_refl _) hb3)
          have HBel3 := Lib.hid (sq HBel.out hb3)
          clear hb3
          go_wp2_with fail
          refine (isInt64_any w.heap.size z w3 _ HB3.out (by omega)).mono ?_
          rintro e w4 ⟨rfl, n, rfl⟩
          rw [decide_eq_true HI.out]
          go_wp2_with fail
          refine (int64_any w.heap.size z (w3.drewN n) w3.heap.size (HB3.out.keep (w' := w3.drewN n) fun k hk => rfl) HI.out).mono ?_
          rintro e w5 ⟨rfl, m, rfl⟩
          go_wp2_with fail
          go_returns
          exact ⟨by rw [HF.out]; rfl, dr HBel3.out (n + m)⟩
        · have HF := Lib.hid (readV_none (hr.trans (if_neg fun h => hi h.2)))
          have HI := Lib.hid hi
          clear he hi hr
          go_wp2_with fail
          refine (intString_any w.heap.size z w2 HB.out (by omega) (by omega)).mono ?_
          rintro e w3 ⟨rfl, hb3⟩
          have HB3 := Lib.hid (HB.out.into (Nat.le_refl _) hb3)
          have HBel3 := Lib.hid (sq HBel.out hb3)
          clear hb3
          go_wp2_with fail
          refine (isInt64_any w.heap.size z w3 _ HB3.out (by omega)).mono ?_
          rintro e w4 ⟨rfl, n, rfl⟩
          rw [decide_eq_false HI.out]
          go_wp2_with fail
          go_returns
          exact ⟨by rw [HF.out]; rfl, dr HBel3.out n⟩
      · rw [decide_eq_false he] at hbq
        have HF := Lib.hid (readV_none (hr.trans (if_neg fun h => he h.1)))
        clear he hr
        go_wp2_with fail
        refine (intString_any w.heap.size z w2 HB.out (by omega) (by omega)).mono ?_
        rintro e w3 ⟨rfl, hb3⟩
        have HBel3 := Lib.hid (sq HBel.out hb3)
        clear hb3
        go_wp2_with fail
        go_returns
        exact ⟨by rw [HF.out]; rfl, HBel3.out⟩
    · have HF := Lib.hid (readV_none (rd_of_none hp))
      have HBel := Lib.hid (below_gb (al _) (by simp) (Nat.le_refl _) hg : Below w.heap.size w w2)
      clear hp hg
      go_wp2_with fail
      go_returns
      exact ⟨by rw [HF.out]; rfl, HBel.out⟩
end Go.Proofs.YtjegfimagjmpdaaGreatDoor
end
