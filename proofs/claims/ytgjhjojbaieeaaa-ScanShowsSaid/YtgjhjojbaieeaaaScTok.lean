/- The cutter's 'token': a line's end, a blank. Conditions: none. -/
import Derived.Test.YtgjhjojbaieeaaaScSign
import Derived.Test.YtgjhjojbaieeaaaPfxA
import Derived.Deep.LoopGhost
set_option maxRecDepth 20000
namespace Go.Proofs.Ytgjhjojbaieeaaa
open Go.ChangeShapes Go.WideShapes Go.ChangeAt Go.RowKit
section
variable {w : World} {g : Nat} {src : ByteArray} {p l c : Int} {v : Value} {T : List Tk}
theorem Cu.set1 (h : Cu w g src p l c v T) (q : Int) : Cu (w.setCell ⟨g, 1, none⟩ (.int .i64 q)) g src q l c v T := by
  refine ⟨?_, World.cell?_setCell_same _ _ _ h.c1, ?_, ?_, ?_, fun k => by simpa using h.fz k, own_cell h.row (by simp) _⟩
  · rw [World.cell?_setCell_other _ _ _ _ (by simp)]; exact h.c0
  · rw [World.cell?_setCell_other _ _ _ _ (by simp)]; exact h.c2
  · rw [World.cell?_setCell_other _ _ _ _ (by simp)]; exact h.c3
  · rw [World.cell?_setCell_other _ _ _ _ (by simp)]; exact h.c4
theorem Cu.set2 (h : Cu w g src p l c v T) (q : Int) : Cu (w.setCell ⟨g, 2, none⟩ (.int .i64 q)) g src p q c v T := by
  refine ⟨?_, ?_, World.cell?_setCell_same _ _ _ h.c2, ?_, ?_, fun k => by simpa using h.fz k, own_cell h.row (by simp) _⟩
  · rw [World.cell?_setCell_other _ _ _ _ (by simp)]; exact h.c0
  · rw [World.cell?_setCell_other _ _ _ _ (by simp)]; exact h.c1
  · rw [World.cell?_setCell_other _ _ _ _ (by simp)]; exact h.c3
  · rw [World.cell?_setCell_other _ _ _ _ (by simp)]; exact h.c4
theorem Cu.set3 (h : Cu w g src p l c v T) (q : Int) : Cu (w.setCell ⟨g, 3, none⟩ (.int .i64 q)) g src p l q v T := by
  refine ⟨?_, ?_, ?_, World.cell?_setCell_same _ _ _ h.c3, ?_, fun k => by simpa using h.fz k, own_cell h.row (by simp) _⟩
  · rw [World.cell?_setCell_other _ _ _ _ (by simp)]; exact h.c0
  · rw [World.cell?_setCell_other _ _ _ _ (by simp)]; exact h.c1
  · rw [World.cell?_setCell_other _ _ _ _ (by simp)]; exact h.c2
  · rw [World.cell?_setCell_other _ _ _ _ (by simp)]; exact h.c4
theorem Cu.drewN (h : Cu w g src p l c v T) (n : Nat) : Cu (w.drewN n) g src p l c v T := ⟨h.c0, h.c1, h.c2, h.c3, h.c4, h.fz, h.row⟩
end
theorem eqc {c d : UInt8} {n : Int} (hn : n = (d.toNat : Int)) : (((c.toNat : Int) == n) = decide (c = d)) := by
  subst hn
  by_cases h : c = d
  · subst h; simp
  · rw [decide_eq_false h]; exact eq_c h
theorem token_nl (g : Nat) (src : ByteArray) (p : Nat) (T : List Tk) (w : World) (hcu : CuS w g src p T) (hT : T.length ≤ 2000) (hsz : src.size ≤ 8000) (hp : p < src.size) (hb : src[p] = 10) :
    Calls Try.prog 61 #[.pointer (some ⟨g, 0, none⟩)] w (MP g src p w (semiR src p (p + 1) T)) := by
  have HC := Lib.hid hcu
  have HPl := Lib.hid (place_nl (L := src.data.toList) (p := p) hp (by rw [head_get src p hp]; exact hb))
  obtain ⟨A, C, hcu⟩ := hcu
  have c0 := hcu.c0
  have c1 := hcu.c1
  have hgl : g < w.heap.size := World.block_lt_of_cell? w ⟨g, 0, none⟩ c0
  have hpb := pl_bound src p hsz
  have hpi : (p : Int) < (src.size : Int) := by omega
  have hb2 : ((src[p].toNat : Nat) : Int) = 10 := by rw [hb]; rfl
  clear hcu hb
  go_enter Try.func61, Try.ntmps61
  go_wp2_with fail
  go_quiet (fail)
  go_wp2_with fail
  refine (lineEnd_any g src p T _ (HC.out.below (dr (Below.refl _ _) _)) hT hsz (by omega)).mono ?_
  intro e w1 hmp
  cases hs : semiT src.data.toList p T with
  | none =>
    rw [show semiR src p p T = .error 15 by unfold semiR; rw [hs]] at hmp
    obtain ⟨rfl, hb1⟩ := hmp
    unfold stopE
    go_wp2_with fail
    rw [show semiR src p (p + 1) T = .error 15 by unfold semiR; rw [hs]]
    exact ⟨rfl, rfl, (dr (Below.refl _ _) _ : Below g _ _).trans hb1⟩
  | some T' =>
    rw [show semiR src p p T = .ok (p, T') by unfold semiR; rw [hs]] at hmp
    have HS := Lib.hid (show semiR src p (p + 1) T = .ok (p + 1, T') by unfold semiR; rw [hs])
    obtain ⟨rfl, ⟨A1, C1, hc1⟩, hb1⟩ := hmp
    have d1 := hc1.c1
    have d2 := hc1.c2
    have d3 := hc1.c3
    have f1 := hc1.fz 1
    have f2 := hc1.fz 2
    have f3 := hc1.fz 3
    have HC1 := Lib.hid (And.intro hc1 hb1)
    clear hc1 hb1
    generalize hpl : place (src.data.toList.take p) = pl at *
    obtain ⟨l, c⟩ := pl
    simp only at d2 d3 hpb
    go_wp2_with fail
    go_end0
    rw [HS.out]
    refine ⟨rfl, ⟨A1, C1, ?_⟩, (((dr (Below.refl _ _) _ : Below g _ _).trans HC1.out.2).setCell (Nat.le_refl _) _ |>.setCell (Nat.le_refl _) _ |>.setCell (Nat.le_refl _) _)⟩
    have := ((HC1.out.1.set1 ((p : Int) + 1)).set2 ((l : Int) + 1)).set3 1
    rw [HPl.out]
    exact this
theorem place_one {src : ByteArray} {p : Nat} (hp : p < src.size) (hb : src[p] ≠ 10) : place (src.data.toList.take (p + 1)) = ((place (src.data.toList.take p)).1, (place (src.data.toList.take p)).2 + 1) := by
  refine place_step (by rw [drop_len]; omega) ?_
  rw [byl_drop src p hp]
  intro c hc
  simp at hc
  subst hc
  exact hb
theorem token_blank (g : Nat) (src : ByteArray) (p : Nat) (T : List Tk) (w : World) (hcu : CuS w g src p T) (hsz : src.size ≤ 8000) (hp : p < src.size) (hb : src[p] = 32 ∨ src[p] = 9 ∨ src[p] = 13) :
    Calls Try.prog 61 #[.pointer (some ⟨g, 0, none⟩)] w (MP g src p w (.ok (p + 1, T))) := by
  have HPl := Lib.hid (place_one hp (by rcases hb with h | h | h <;> (rw [h]; decide)))
  obtain ⟨A, C, hcu⟩ := hcu
  have c0 := hcu.c0
  have c1 := hcu.c1
  have c3 := hcu.c3
  have f1 := hcu.fz 1
  have f3 := hcu.fz 3
  have hpb := pl_bound src p hsz
  have hpi : (p : Int) < (src.size : Int) := by omega
  have HCu := Lib.hid hcu
  clear hcu
  generalize hpl : place (src.data.toList.take p) = pl at *
  obtain ⟨l, c⟩ := pl
  simp only at c3 hpb
  have fin : ∀ n, MP g src p w (.ok (p + 1, T)) (.returned (.tuple #[])) ((((w.drewN n).setCell ⟨g, 1, none⟩ (.int .i64 ((p : Int) + 1))).setCell ⟨g, 3, none⟩ (.int .i64 ((c : Int) + 1)))) := fun n => by
    refine ⟨rfl, ⟨A, C, ?_⟩, ((dr (Below.refl _ _) _ : Below g _ _).setCell (Nat.le_refl _) _).setCell (Nat.le_refl _) _⟩
    rw [HPl.out]
    exact ((HCu.out.drewN n).set1 ((p : Int) + 1)).set3 ((c : Int) + 1)
  have HF := Lib.hid fin
  clear fin
  have h9 : ((src[p].toNat : Nat) : Int) = 32 ∨ ((src[p].toNat : Nat) : Int) = 9 ∨ ((src[p].toNat : Nat) : Int) = 13 := by
    rcases hb with h | h | h <;> rw [h]
    · exact .inl rfl
    · exact .inr (.inl rfl)
    · exact .inr (.inr rfl)
  clear hb
  rcases h9 with h9 | h9 | h9
  all_goals
    go_enter Try.func61, Try.ntmps61
    go_wp2_with fail
    go_quiet (fail)
    go_wp2_with fail
    go_end0
    exact HF.out _
end Go.Proofs.Ytgjhjojbaieeaaa
