/- Both heaps and the places, each in blocks of its own. Conditions: none. -/
import Derived.Test.YthogfcdgbodccaaHqI
import Derived.Test.YthogfcdgbodccaaHqA
set_option maxRecDepth 100000
namespace Go.Proofs.Ythogfcdgbodccaa
open Go.ChangeShapes Go.WideShapes Go.ChangeAt Go.RowKit
structure PlM (w : World) (M : Nat → Prop) (G : Nat) (l : List Int) : Prop where
  hG : M G
  ex : ∃ A c, w.heap[G]? = some (.cells #[.slice A l.length c] 33 (0, 0)) ∧ w.ownsRow 0 3 1 (.slice A l.length c) l.length (l.map (Value.int .i64)) ∧ ∀ q, (Value.slice A l.length c).ownBlock = some q → M q
structure AsI (w : World) (B : Nat) (M1 M2 M3 : Nat → Prop) (P Q G room : Nat) (b1 b2 : List BK) (l : List Int) : Prop where
  hm : HM w M1 P room b1
  sm : SM w M2 Q room b2
  pl : PlM w M3 G l
  d12 : ∀ k, M1 k → ¬ M2 k
  d13 : ∀ k, M1 k → ¬ M3 k
  d23 : ∀ k, M2 k → ¬ M3 k
  lt : ∀ k, M1 k ∨ M2 k ∨ M3 k → B ≤ k ∧ k < w.heap.size
section
variable {w w' : World} {B P Q G room : Nat} {M1 M2 M3 : Nat → Prop} {b1 b2 b' : List BK} {l l' : List Int}
theorem PlM.keep {M N : Nat → Prop} (h : PlM w M G l) (hk : Ke N w w') (hd : ∀ k, M k → ¬ N k) : PlM w' M G l := by
  obtain ⟨A, c, h1, h2, h3⟩ := h.ex
  exact ⟨h.hG, A, c, (hk.blk G (Array.getElem?_eq_some_iff.1 h1).1 (hd G h.hG)).trans h1, own_keep h2 hk h3 hd, h3⟩
theorem SM.lt {M : Nat → Prop} (h : SM w M Q room b2) : SM w (fun k => M k ∧ k < w.heap.size) Q room b2 := by
  obtain ⟨bv, ds, h⟩ := h
  refine ⟨bv, ds, ⟨h.hQ, h.lt⟩, h.box, h.row, ⟨h.bk.len, h.bk.cr, h.bk.dis, fun i d k hi hk => ⟨h.bk.md i d k hi hk, ?_⟩⟩, fun k hk => ⟨h.mb k hk, (h.row.lt k hk).2⟩, h.fit, h.nz⟩
  have hil := (List.getElem?_eq_some_iff.1 hi).1
  exact ((h.bk.cr i _ d (List.getElem?_eq_getElem (by rw [← h.bk.len]; exact hil)) hi).lt k hk).2
theorem PlM.lt {M : Nat → Prop} (h : PlM w M G l) : PlM w (fun k => M k ∧ k < w.heap.size) G l := by
  obtain ⟨A, c, h1, h2, h3⟩ := h.ex
  exact ⟨⟨h.hG, (Array.getElem?_eq_some_iff.1 h1).1⟩, A, c, h1, h2, fun q hq => ⟨h3 q hq, (h2.lt q hq).2⟩⟩
theorem AsI.below (h : AsI w B M1 M2 M3 P Q G room b1 b2 l) (hb : Below w.heap.size w w') : AsI w' B M1 M2 M3 P Q G room b1 b2 l :=
  ⟨h.hm.below hb, h.sm.below hb, h.pl.keep (N := fun _ => False) (Ke.of hb) (fun _ _ h => h), h.d12, h.d13, h.d23, fun k hk => ⟨(h.lt k hk).1, Nat.lt_of_lt_of_le (h.lt k hk).2 hb.size⟩⟩
theorem AsI.h (h : AsI w B M1 M2 M3 P Q G room b1 b2 l) (hm' : HM w' M1 P room b') (hk : Ke M1 w w') : AsI w' B M1 M2 M3 P Q G room b' b2 l :=
  ⟨hm', h.sm.keep hk (fun k h2 h1 => h.d12 k h1 h2), h.pl.keep hk (fun k h3 h1 => h.d13 k h1 h3), h.d12, h.d13, h.d23, fun k hk' => ⟨(h.lt k hk').1, Nat.lt_of_lt_of_le (h.lt k hk').2 hk.size⟩⟩
theorem AsI.s (h : AsI w B M1 M2 M3 P Q G room b1 b2 l) (hB : B ≤ w.heap.size) (sm' : SM w' (fun k => M2 k ∨ w.heap.size ≤ k) Q room b') (hk : Ke M2 w w') : ∃ M2', AsI w' B M1 M2' M3 P Q G room b1 b' l := by
  refine ⟨fun k => (M2 k ∨ w.heap.size ≤ k) ∧ k < w'.heap.size, h.hm.keep hk h.d12, sm'.lt, h.pl.keep hk (fun k h3 h2 => h.d23 k h2 h3), fun k h1 h2 => ?_, h.d13, fun k h2 h3 => ?_, fun k hk' => ?_⟩
  · rcases h2.1 with e | e
    · exact h.d12 k h1 e
    · have := (h.lt k (.inl h1)).2; omega
  · rcases h2.1 with e | e
    · exact h.d23 k e h3
    · have := (h.lt k (.inr (.inr h3))).2; omega
  · have hs := hk.size
    rcases hk' with h1 | h2 | h3
    · have := h.lt k (.inl h1); omega
    · rcases h2.1 with e | e
      · have := h.lt k (.inr (.inl e)); omega
      · exact ⟨by omega, h2.2⟩
    · have := h.lt k (.inr (.inr h3)); omega
theorem AsI.p (h : AsI w B M1 M2 M3 P Q G room b1 b2 l) (hB : B ≤ w.heap.size) (pl' : PlM w' (fun k => M3 k ∨ w.heap.size ≤ k) G l') (hk : Ke M3 w w') : ∃ M3', AsI w' B M1 M2 M3' P Q G room b1 b2 l' := by
  refine ⟨fun k => (M3 k ∨ w.heap.size ≤ k) ∧ k < w'.heap.size, h.hm.keep hk h.d13, h.sm.keep hk h.d23, pl'.lt, h.d12, fun k h1 h3 => ?_, fun k h2 h3 => ?_, fun k hk' => ?_⟩
  · rcases h3.1 with e | e
    · exact h.d13 k h1 e
    · have := (h.lt k (.inl h1)).2; omega
  · rcases h3.1 with e | e
    · exact h.d23 k h2 e
    · have := (h.lt k (.inr (.inl h2))).2; omega
  · have hs := hk.size
    rcases hk' with h1 | h2 | h3
    · have := h.lt k (.inl h1); omega
    · have := h.lt k (.inr (.inl h2)); omega
    · rcases h3.1 with e | e
      · have := h.lt k (.inr (.inr e)); omega
      · exact ⟨by omega, h3.2⟩
theorem ke_out {L : Nat} {o : Obj} (hL : w.heap[L]? = some o) (hn : ¬ M1 L) (hk : Ke M1 w w') : w'.heap[L]? = some o :=
  (hk.blk L (Array.getElem?_eq_some_iff.1 hL).1 hn).trans hL
/-- A place put behind the others. -/
theorem PlM.push {w6 : World} {M : Nat → Prop} {A' : Option Addr} {c' : Nat} {x : Int} (h : PlM w M G l) (hb : Ke M w w6) (hr : w6.ownsRow 0 3 1 (.slice A' (l.length + 1) c') (l.length + 1) (l.map (Value.int .i64) ++ [.int .i64 x])) (hg : ∀ q, (Value.slice A' (l.length + 1) c').ownBlock = some q → M q ∨ w.heap.size ≤ q) (hG : w6.heap[G]? = w.heap[G]?) : PlM (w6.setCell ⟨G, 0, none⟩ (.slice A' (l.length + 1) c')) (fun k => M k ∨ w.heap.size ≤ k) G (l ++ [x]) ∧ Ke M w (w6.setCell ⟨G, 0, none⟩ (.slice A' (l.length + 1) c')) := by
  obtain ⟨A, c, h1, h2, h3⟩ := h.ex
  have h6 := hG.trans h1
  have e : (l ++ [x]).length = l.length + 1 := by simp
  refine ⟨⟨.inl h.hG, A', c', ?_, ?_, ?_⟩, hb.set 0 _ (.inl h.hG)⟩
  · rw [e]
    have := heap_setN h6 (j := 0) (.slice A' (l.length + 1) c')
    simpa using this
  · rw [e, List.map_append]
    exact own_setQ hr h6 (by decide)
  · rw [e]; exact hg
end
end Go.Proofs.Ythogfcdgbodccaa
