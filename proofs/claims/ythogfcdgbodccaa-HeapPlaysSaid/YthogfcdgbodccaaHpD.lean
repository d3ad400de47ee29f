/- The document's way of putting a block in (plain); what memory holds of the document's store. Conditions: none. -/
import Derived.Test.YthogfcdgbodccaaHpC
set_option maxRecDepth 100000
namespace Go.Proofs.Ythogfcdgbodccaa
open Go.ChangeShapes Go.WideShapes Go.ChangeAt Go.RowKit
/-- Before round i of the document's search: from 'fr' on lie the blocks from i on. -/
structure DI (sh : Int) (n : Nat) (bs : List BK) (room i fr : Nat) : Prop where
  le : i ≤ bs.length
  fit : FitB fr (bs.drop i) room
  ans : insB sh n 0 bs room = (insB sh n fr (bs.drop i) room).map fun p => (p.1, bs.take i ++ p.2)
theorem DI.start {sh : Int} {n : Nat} {bs : List BK} {room : Nat} (h : FitB 0 bs room) : DI sh n bs room 0 0 :=
  ⟨Nat.zero_le _, h, by simp only [List.drop_zero, List.take_zero, List.nil_append]; cases insB sh n 0 bs room <;> rfl⟩
theorem drop_cons {bs : List BK} {i : Nat} {b : BK} (h : bs[i]? = some b) : bs.drop i = b :: bs.drop (i + 1) := by
  obtain ⟨h1, h2⟩ := List.getElem?_eq_some_iff.1 h
  rw [List.drop_eq_getElem_cons h1, h2]
theorem take_snoc {bs : List BK} {i : Nat} {b : BK} (h : bs[i]? = some b) : bs.take (i + 1) = bs.take i ++ [b] := by
  rw [List.take_add_one, h]; rfl
theorem DI.next {sh : Int} {n : Nat} {bs : List BK} {room i fr : Nat} (h : DI sh n bs room i fr) {b : BK} (hb : bs[i]? = some b) (hn : b.at_ < fr + (n + 1)) : fr ≤ b.at_ ∧ b.fin ≤ room ∧ DI sh n bs room (i + 1) b.fin := by
  have hf := h.fit
  rw [drop_cons hb] at hf
  have ha := h.ans
  rw [drop_cons hb, insB, if_neg (by omega)] at ha
  have hlt := (List.getElem?_eq_some_iff.1 hb).1
  refine ⟨hf.1, hf.2.le, by omega, hf.2, ?_⟩
  rw [ha, Option.map_map, take_snoc hb]
  congr 1
  funext p
  simp
theorem DI.found {sh : Int} {n : Nat} {bs : List BK} {room i fr : Nat} (h : DI sh n bs room i fr) {b : BK} (hb : bs[i]? = some b) (hn : fr + (n + 1) ≤ b.at_) : insB sh n 0 bs room = some (fr, bs.take i ++ [⟨fr, sh, List.replicate n (0, 0)⟩] ++ bs.drop i) := by
  rw [h.ans, drop_cons hb, insB, if_pos (by omega)]
  simp
theorem DI.last {sh : Int} {n : Nat} {bs : List BK} {room fr : Nat} (h : DI sh n bs room bs.length fr) (hn : fr + (n + 1) ≤ room) : insB sh n 0 bs room = some (fr, bs.take bs.length ++ [⟨fr, sh, List.replicate n (0, 0)⟩] ++ bs.drop bs.length) := by
  rw [h.ans, List.drop_length, insB, if_pos (by omega)]
  simp
theorem DI.stop {sh : Int} {n : Nat} {bs : List BK} {room fr : Nat} (h : DI sh n bs room bs.length fr) (hn : room < fr + (n + 1)) : insB sh n 0 bs room = none := by
  rw [h.ans, List.drop_length, insB, if_neg (by omega)]
  rfl
theorem DI.room {sh : Int} {n : Nat} {bs : List BK} {room i fr : Nat} (h : DI sh n bs room i fr) : fr ≤ room := h.fit.le
/-! ### The document's store in memory -/
def blC (b : BK) (d : Value) : List Value := [.int .i64 (b.at_ : Int), .int .i64 b.shape, d]
def blL (bs : List BK) (ds : List Value) : List Value := (List.zipWith blC bs ds).flatten
theorem blL_len {bs : List BK} {ds : List Value} (h : ds.length = bs.length) : (blL bs ds).length = bs.length * 3 := by
  unfold blL
  rw [flatten_len (k := 3) fun c hc => ?_]
  · simp [h]
  · obtain ⟨i, hi, rfl⟩ := List.mem_iff_getElem.1 hc
    simp [blC]
theorem blL_get {bs : List BK} {ds : List Value} {i j : Nat} {b : BK} {d : Value} (hb : bs[i]? = some b) (hd : ds[i]? = some d) (hj : j < 3) : (blL bs ds)[i * 3 + j]? = (blC b d)[j]? := by
  unfold blL
  rw [flat_at (k := 3) (fun c hc => by obtain ⟨i, hi, rfl⟩ := List.mem_iff_getElem.1 hc; simp [blC]) i j hj, List.getElem?_zipWith, hb, hd]
  rfl
theorem blL_app {a b : List BK} {x y : List Value} (h : x.length = a.length) : blL (a ++ b) (x ++ y) = blL a x ++ blL b y := by
  unfold blL
  rw [List.zipWith_append h.symm]
  simp
/-- Blocks that are read: a row of structs and the rows of their cells, all of them in blocks of M. -/
structure BkM (w : World) (M : Nat → Prop) (bs : List BK) (ds : List Value) : Prop where
  len : ds.length = bs.length
  cr : ∀ (i : Nat) (b : BK) (d : Value), bs[i]? = some b → ds[i]? = some d → w.ownsRow 0 36 2 d b.cells.length (ceL b.cells)
  dis : ∀ (i j : Nat) (d d' : Value) (k : Nat), ds[i]? = some d → ds[j]? = some d' → d.ownBlock = some k → d'.ownBlock = some k → i = j
  md : ∀ (i : Nat) (d : Value) (k : Nat), ds[i]? = some d → d.ownBlock = some k → M k
structure SPc (w : World) (M : Nat → Prop) (Q room : Nat) (bs : List BK) (bv : Value) (ds : List Value) : Prop where
  hQ : M Q
  box : w.heap[Q]? = some (.cells #[.int .i64 (room : Int), bv] 44 (0, 0))
  row : w.ownsRow 0 64 3 bv bs.length (blL bs ds)
  bk : BkM w M bs ds
  mb : ∀ k, bv.ownBlock = some k → M k
  fit : FitB 0 bs room
  nz : bs.length = 0 → bv = .slice none 0 0
/-- The document's store in block Q, all of it in blocks of M. -/
def SM (w : World) (M : Nat → Prop) (Q room : Nat) (bs : List BK) : Prop := ∃ bv ds, SPc w M Q room bs bv ds
theorem BkM.keep {w w' : World} {M N : Nat → Prop} {bs : List BK} {ds : List Value} (h : BkM w M bs ds) (hk : Ke N w w') (hd : ∀ k, M k → ¬ N k) : BkM w' M bs ds :=
  ⟨h.len, fun i b d h1 h2 => own_keep (h.cr i b d h1 h2) hk (fun k hk => h.md i d k h2 hk) hd, h.dis, h.md⟩
theorem BkM.more {w : World} {M N : Nat → Prop} {bs : List BK} {ds : List Value} (h : BkM w M bs ds) (hM : ∀ k, M k → N k) : BkM w N bs ds :=
  ⟨h.len, h.cr, h.dis, fun i d k h1 h2 => hM k (h.md i d k h1 h2)⟩
theorem SPc.keep {w w' : World} {M N : Nat → Prop} {Q room : Nat} {bs : List BK} {bv : Value} {ds : List Value} (h : SPc w M Q room bs bv ds) (hk : Ke N w w') (hd : ∀ k, M k → ¬ N k) : SPc w' M Q room bs bv ds :=
  ⟨h.hQ, (hk.blk Q (Array.getElem?_eq_some_iff.1 h.box).1 (hd Q h.hQ)).trans h.box, own_keep h.row hk h.mb hd, h.bk.keep hk hd, h.mb, h.fit, h.nz⟩
theorem SPc.more {w : World} {M N : Nat → Prop} {Q room : Nat} {bs : List BK} {bv : Value} {ds : List Value} (h : SPc w M Q room bs bv ds) (hM : ∀ k, M k → N k) : SPc w N Q room bs bv ds :=
  ⟨hM Q h.hQ, h.box, h.row, h.bk.more hM, fun k hk => hM k (h.mb k hk), h.fit, h.nz⟩
theorem SPc.below {w w' : World} {M : Nat → Prop} {Q room : Nat} {bs : List BK} {bv : Value} {ds : List Value} (h : SPc w M Q room bs bv ds) (hb : Below w.heap.size w w') : SPc w' M Q room bs bv ds :=
  h.keep (N := fun _ => False) (Ke.of hb) fun _ _ h => h
theorem SM.keep {w w' : World} {M N : Nat → Prop} {Q room : Nat} {bs : List BK} (h : SM w M Q room bs) (hk : Ke N w w') (hd : ∀ k, M k → ¬ N k) : SM w' M Q room bs := by
  obtain ⟨bv, ds, h⟩ := h
  exact ⟨bv, ds, h.keep hk hd⟩
theorem SM.below {w w' : World} {M : Nat → Prop} {Q room : Nat} {bs : List BK} (h : SM w M Q room bs) (hb : Below w.heap.size w w') : SM w' M Q room bs :=
  h.keep (N := fun _ => False) (Ke.of hb) fun _ _ h => h
theorem SM.more {w : World} {M N : Nat → Prop} {Q room : Nat} {bs : List BK} (h : SM w M Q room bs) (hM : ∀ k, M k → N k) : SM w N Q room bs := by
  obtain ⟨bv, ds, h⟩ := h
  exact ⟨bv, ds, h.more hM⟩
theorem SPc.boxc {w : World} {M : Nat → Prop} {Q room : Nat} {bs : List BK} {bv : Value} {ds : List Value} (h : SPc w M Q room bs bv ds) : w.cell? ⟨Q, 0, none⟩ = some (.int .i64 (room : Int)) ∧ w.cell? ⟨Q, 1, none⟩ = some bv :=
  ⟨by rw [Lib.cell_of_heap h.box]; rfl, by rw [Lib.cell_of_heap h.box]; rfl⟩
/-- What the row of structs tells at a block. -/
theorem SPc.at_ {w : World} {M : Nat → Prop} {Q room : Nat} {bs : List BK} {bv : Value} {ds : List Value} (h : SPc w M Q room bs bv ds) {i : Nat} {b : BK} (hb : bs[i]? = some b) : ∃ R c d, bv = .slice (some ⟨R, 0, none⟩) bs.length c ∧ ds[i]? = some d ∧ R < w.heap.size ∧ w.cell? ⟨R, i * 3, none⟩ = some (.int .i64 (b.at_ : Int)) ∧ w.cell? ⟨R, i * 3 + 1, none⟩ = some (.int .i64 b.shape) ∧ w.cell? ⟨R, i * 3 + 2, none⟩ = some d := by
  have hlt := (List.getElem?_eq_some_iff.1 hb).1
  obtain ⟨d, hd⟩ : ∃ d, ds[i]? = some d := ⟨_, List.getElem?_eq_getElem (by rw [h.bk.len]; exact hlt)⟩
  have hr := h.row
  obtain ⟨R, c, rfl, _⟩ := hr.form (by omega)
  have hq : ∀ j u, (blC b d)[j]? = some u → j < 3 → w.cell? ⟨R, i * 3 + j, none⟩ = some u ∧ R < w.heap.size := fun j u hu hj => by
    have := own_cellC hr (k := i * 3 + j) (u := u) (by rw [blL_get hb hd hj]; exact hu)
    exact ⟨this.1, this.2.2.2⟩
  exact ⟨R, c, d, rfl, hd, (hq 0 _ rfl (by omega)).2, (hq 0 _ rfl (by omega)).1, (hq 1 _ rfl (by omega)).1, (hq 2 _ rfl (by omega)).1⟩
end Go.Proofs.Ythogfcdgbodccaa
