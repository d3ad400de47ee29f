/- The document's Alloc: what memory holds behind it. Conditions: none. -/
import Derived.Test.YthogfcdgbodccaaHqF
set_option maxRecDepth 100000
namespace Go.Proofs.Ythogfcdgbodccaa
open Go.ChangeShapes Go.WideShapes Go.ChangeAt Go.RowKit
theorem BkM.perm {w : World} {M : Nat → Prop} {bs bs' : List BK} {ds ds' : List Value} (h : BkM w M bs ds) (f : Nat → Nat) (hl : ds'.length = bs'.length) (hf : ∀ j, j < bs'.length → bs'[j]? = bs[f j]? ∧ ds'[j]? = ds[f j]?) (hi : ∀ i j, i < bs'.length → j < bs'.length → f i = f j → i = j) : BkM w M bs' ds' := by
  have lt : ∀ (i : Nat) (d : Value), ds'[i]? = some d → i < bs'.length := fun i d hd => by rw [← hl]; exact (List.getElem?_eq_some_iff.1 hd).1
  refine ⟨hl, fun i b d hb hd => ?_, fun i j d d' q hi' hj' hq hq' => ?_, fun i d q hi' hq => ?_⟩
  · obtain ⟨e1, e2⟩ := hf i (lt i d hd)
    exact h.cr (f i) b d (by rw [← e1]; exact hb) (by rw [← e2]; exact hd)
  · exact hi i j (lt i d hi') (lt j d' hj') (h.dis (f i) (f j) d d' q (by rw [← (hf i (lt i d hi')).2]; exact hi') (by rw [← (hf j (lt j d' hj')).2]; exact hj') hq hq')
  · exact h.md (f i) d q (by rw [← (hf i (lt i d hi')).2]; exact hi') hq
theorem ins_get {α : Type} (l : List α) (x : α) (i j : Nat) (hi : i ≤ l.length) (hj : j < l.length + 1) : (l.take i ++ [x] ++ l.drop i)[j]? = (l ++ [x])[if j < i then j else if j = i then l.length else j - 1]? := by
  by_cases h1 : j < i
  · rw [if_pos h1, List.append_assoc, List.getElem?_append_left (by rw [List.length_take]; omega), List.getElem?_take, if_pos h1, List.getElem?_append_left (by omega)]
  · rw [if_neg h1]
    by_cases h2 : j = i
    · subst h2
      rw [if_pos rfl, List.append_assoc, List.getElem?_append_right (by rw [List.length_take]; omega), List.length_take, Nat.min_eq_left hi, Nat.sub_self, List.getElem?_append_right (Nat.le_refl _), Nat.sub_self]
      rfl
    · rw [if_neg h2, List.getElem?_append_right (by rw [List.length_append, List.length_take]; simp; omega), List.getElem?_drop, List.length_append, List.length_take, Nat.min_eq_left hi]
      have e : i + (j - (i + [x].length)) = j - 1 := by rw [show [x].length = 1 from rfl]; omega
      rw [e]
      rw [List.getElem?_append_left (by omega)]
theorem BkM.ins {w : World} {M : Nat → Prop} {bs : List BK} {ds : List Value} {b : BK} {d : Value} (h : BkM w M (bs ++ [b]) (ds ++ [d])) (hl : ds.length = bs.length) (i : Nat) (hi : i ≤ bs.length) : BkM w M (bs.take i ++ [b] ++ bs.drop i) (ds.take i ++ [d] ++ ds.drop i) := by
  refine h.perm (fun j => if j < i then j else if j = i then bs.length else j - 1) (by simp; omega) (fun j hj => ⟨ins_get bs b i j hi (by simp at hj; omega), ?_⟩) fun a c ha hc e => ?_
  · have := ins_get ds d i j (by omega) (by simp at hj; omega)
    rw [hl] at this
    exact this
  · simp at ha hc
    by_cases h1 : a < i
    · rw [if_pos h1] at e
      by_cases h2 : c < i
      · rw [if_pos h2] at e; exact e
      · rw [if_neg h2] at e
        by_cases h3 : c = i
        · rw [if_pos h3] at e; omega
        · rw [if_neg h3] at e; omega
    · rw [if_neg h1] at e
      by_cases h2 : c < i
      · rw [if_pos h2] at e
        by_cases h3 : a = i
        · rw [if_pos h3] at e; omega
        · rw [if_neg h3] at e; omega
      · rw [if_neg h2] at e
        by_cases h3 : a = i
        · rw [if_pos h3] at e
          by_cases h4 : c = i
          · omega
          · rw [if_neg h4] at e; omega
        · rw [if_neg h3] at e
          by_cases h4 : c = i
          · rw [if_pos h4] at e; omega
          · rw [if_neg h4] at e; omega
theorem blL_split {bs : List BK} {ds : List Value} (hl : ds.length = bs.length) (i : Nat) : blL bs ds = blL (bs.take i) (ds.take i) ++ blL (bs.drop i) (ds.drop i) := by
  rw [← blL_app (by rw [List.length_take, List.length_take, hl]), List.take_append_drop, List.take_append_drop]
theorem SPc.front {w : World} {M : Nat → Prop} {Q room i c : Nat} {bs : List BK} {A : Option Addr} {ds : List Value} (h : SPc w M Q room bs (.slice A bs.length c) ds) (hi : i ≤ bs.length) : Rd w w.heap.size 3 A i (blL (bs.take i) (ds.take i)) := by
  have hr := Rd.of_own h.row
  have hl : (bs.take i).length = i := by rw [List.length_take]; omega
  refine ⟨by rw [blL_len (by rw [List.length_take, List.length_take, h.bk.len]), hl], fun h0 => ?_⟩
  obtain ⟨b, off, e, hb, hc⟩ := hr.2 (by omega)
  refine ⟨b, off, e, hb, fun j u hu => hc j u ?_⟩
  rw [blL_split h.bk.len i, List.getElem?_append_left (List.getElem?_eq_some_iff.1 hu).1]
  exact hu
theorem SPc.back {w : World} {M : Nat → Prop} {Q room i c R : Nat} {bs : List BK} {ds : List Value} (h : SPc w M Q room bs (.slice (some ⟨R, 0, none⟩) bs.length c) ds) (hi : i ≤ bs.length) (AX : Option Addr) (hA : AX = some ⟨R, i * 3, none⟩ ∨ bs.length - i = 0) : Rd w w.heap.size 3 AX (bs.length - i) (blL (bs.drop i) (ds.drop i)) := by
  have hl : (bs.drop i).length = bs.length - i := by rw [List.length_drop]
  refine ⟨by rw [blL_len (by rw [List.length_drop, List.length_drop, h.bk.len]), hl], fun h0 => ?_⟩
  rcases hA with rfl | hA
  · refine ⟨R, i * 3, rfl, (h.row.lt R rfl).2, fun j u hu => ?_⟩
    have := own_cellC h.row (k := i * 3 + j) (u := u) (by
      rw [blL_split h.bk.len i, List.getElem?_append_right (by rw [blL_len (by rw [List.length_take, List.length_take, h.bk.len]), List.length_take]; omega), blL_len (by rw [List.length_take, List.length_take, h.bk.len]), List.length_take, Nat.min_eq_left hi, Nat.add_sub_cancel_left]
      exact hu)
    exact this.1
  · omega
/-- The store behind it: the row of blocks is new, and so is the new block's row of cells. -/
theorem SPc.inserted {w w2 w6 : World} {M : Nat → Prop} {Q room i D n c9 : Nat} {A9 : Option Addr} {bs bs' : List BK} {bv : Value} {ds : List Value} {b : BK} (h : SPc w M Q room bs bv ds) (hi : i ≤ bs.length) (hb' : bs' = bs.take i ++ [b] ++ bs.drop i) (hfit : FitB 0 bs' room) (hn : n = b.cells.length)
    (hD : w2.ownsRow w.heap.size 36 2 (.slice (some ⟨D, 0, none⟩) n n) n (ceL b.cells)) (hb2 : Below w.heap.size w w2) (hb6 : Below w2.heap.size w2 w6)
    (hr : w6.ownsRow w2.heap.size 64 3 (.slice A9 (bs.length + 1) c9) (bs.length + 1) (blL (bs.take i) (ds.take i) ++ blC b (.slice (some ⟨D, 0, none⟩) n n) ++ blL (bs.drop i) (ds.drop i))) :
    SPc (w6.setCell ⟨Q, 1, none⟩ (.slice A9 (bs.length + 1) c9)) (fun k => M k ∨ w.heap.size ≤ k) Q room bs' (.slice A9 (bs.length + 1) c9) (ds.take i ++ [.slice (some ⟨D, 0, none⟩) n n] ++ ds.drop i) ∧ Ke M w (w6.setCell ⟨Q, 1, none⟩ (.slice A9 (bs.length + 1) c9)) := by
  subst hn
  have hb := hb2.trans (hb6.mono hb2.size)
  have h6 := h.below hb
  have hD6 := own_below hD hb6
  have hsn := (h.bk.more (N := fun k => M k ∨ w.heap.size ≤ k) fun k hk => .inl hk).snoc hb hD6 fun q hq => ⟨(hD6.lt q hq).1, .inr (hD6.lt q hq).1⟩
  have hins := hsn.ins h.bk.len i hi
  have hl : bs'.length = bs.length + 1 := by rw [hb']; simp; omega
  refine ⟨⟨.inl h.hQ, ?_, ?_, ?_, fun q hq => .inr (Nat.le_trans hb2.size (hr.lt q hq).1), hfit, fun h0 => by omega⟩, (Ke.of hb).set 1 _ (.inl h.hQ)⟩
  · have := heap_setN h6.box (j := 1) (.slice A9 (bs.length + 1) c9)
    simpa using this
  · have e : blL bs' (ds.take i ++ [.slice (some ⟨D, 0, none⟩) b.cells.length b.cells.length] ++ ds.drop i) = blL (bs.take i) (ds.take i) ++ blC b (.slice (some ⟨D, 0, none⟩) b.cells.length b.cells.length) ++ blL (bs.drop i) (ds.drop i) := by
      rw [hb', blL_app (by simp [h.bk.len]), blL_app (by rw [List.length_take, List.length_take, h.bk.len])]
      simp [blL]
    rw [e, hl]
    exact own_setQ (own_base hr (Nat.zero_le _)) h6.box (by decide)
  · rw [hb']
    exact ⟨hins.len, fun j c d hc hd => own_setQ (hins.cr j c d hc hd) h6.box (by decide), hins.dis, hins.md⟩
end Go.Proofs.Ythogfcdgbodccaa
