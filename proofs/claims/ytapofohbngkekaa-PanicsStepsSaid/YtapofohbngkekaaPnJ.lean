/- The document's 'phased'. Conditions: bounds; what holds of all states that are come to. -/
import Derived.Test.YtapofohbngkekaaPnI
import Derived.Deep.Cut
import Derived.Deep.CutRange
set_option maxRecDepth 100000
namespace Go.Proofs.Ytapofohbngkekaa
open Go.ChangeShapes Go.WideShapes Go.ChangeAt Go.RowKit
set_option maxHeartbeats 8000000 in
theorem phased_any (FA PA : Option Addr) (nf fc np pc : Nat) (s : ST) (x : Int) (w : World) (hs : STr w w.heap.size (.slice FA nf fc) (.slice PA np pc) s) (hne : ¬ s.fr.length = 0) (hok : ∀ p ∈ s.pn, PnOk p) (hf30 : nf ≤ 1000) (hp2 : np ≤ 100000) (hds : ∀ f ∈ s.fr, f.ds.length ≤ 100000) :
    Calls Try.prog 51 #[stV (.slice FA nf fc) (.slice PA np pc) s, .int .i64 x] w fun e w' => ∃ fv pv ds, e = .returned (stV fv pv (stFr s (setPh s.fr x))) ∧ FrO w' w.heap.size fv (setPh s.fr x) ds ∧ w'.ownsRow w.heap.size 99 7 pv s.pn.length (pnL s.pn) ∧ Below w.heap.size w w' := by
  have hnf : nf = s.fr.length := by
    obtain ⟨⟨A, c, ds, e, _⟩, _⟩ := hs
    injection e
  obtain ⟨gs, g, hg, hg0⟩ := snoc_of (l := s.fr) (n := s.fr.length - 1) (by omega)
  have HC := Lib.hid (fun W (hW : Below w.heap.size w W) => copyState_any FA PA nf fc np pc s W ((hs.into hW).more hW.size) hok hf30 hp2 hds)
  have HG := Lib.hid hg
  have hgl : gs.length ≤ 1000 := by rw [hg] at hnf; simp at hnf; omega
  clear hs hne hok hds hnf hg hg0
  go_enter Try.func51, Try.ntmps51
  go_wp2_with fail
  have hbx := sq (al (w := w) (.cells #[.slice FA nf fc, .slice PA np pc, .int .i64 (s.next : Int), .int .i64 (s.ser : Int), .int .i64 s.en, .int .i64 s.st] 56)) (al (.cells #[.slice none 0 0, .slice none 0 0, .int .i64 0, .int .i64 0, .int .i64 0, .int .i64 0] 56))
  have hx0 := (Lib.alloc_old (w.alloc (.cells #[.slice FA nf fc, .slice PA np pc, .int .i64 (s.next : Int), .int .i64 (s.ser : Int), .int .i64 s.en, .int .i64 s.st] 56)) (.cells #[.slice none 0 0, .slice none 0 0, .int .i64 0, .int .i64 0, .int .i64 0, .int .i64 0] 56) w.heap.size (by simp)).trans (heap_alloc_new w _)
  have hr0 := heap_atN (w := w.alloc (.cells #[.slice FA nf fc, .slice PA np pc, .int .i64 (s.next : Int), .int .i64 (s.ser : Int), .int .i64 s.en, .int .i64 s.st] 56)) (n := w.heap.size + 1) (.cells #[.slice none 0 0, .slice none 0 0, .int .i64 0, .int .i64 0, .int .i64 0, .int .i64 0] 56) (by simp)
  have hz : ((w.alloc (.cells #[.slice FA nf fc, .slice PA np pc, .int .i64 (s.next : Int), .int .i64 (s.ser : Int), .int .i64 s.en, .int .i64 s.st] 56)).alloc (.cells #[.slice none 0 0, .slice none 0 0, .int .i64 0, .int .i64 0, .int .i64 0, .int .i64 0] 56)).heap.size = w.heap.size + 2 := by simp
  generalize (w.alloc (.cells #[.slice FA nf fc, .slice PA np pc, .int .i64 (s.next : Int), .int .i64 (s.ser : Int), .int .i64 s.en, .int .i64 s.st] 56)).alloc (.cells #[.slice none 0 0, .slice none 0 0, .int .i64 0, .int .i64 0, .int .i64 0, .int .i64 0] 56) = wa at *
  refine (HC.out _ hbx).mono ?_
  rintro e w1 ⟨fv, pv, ds, rfl, hfo, hpo, hb1⟩
  rw [hz] at hfo hpo
  obtain ⟨FB, c, rfl⟩ := own_form hfo.row
  obtain ⟨PB, d, rfl⟩ := own_form hpo
  have hl : s.fr.length = gs.length + 1 := by rw [HG.out]; simp
  rw [hl] at hfo ⊢
  rw [HG.out] at hfo
  obtain ⟨F, c', es, dd, rfl, _, e1, hF, hFz, _, _, ht⟩ := hfo.top
  injection e1 with e1 _ e2
  subst e1 e2
  have HX1 := Lib.hid ((hb1.block w.heap.size (by omega)).trans hx0)
  have HR1 := Lib.hid ((hb1.block (w.heap.size + 1) (by omega)).trans hr0)
  have HB1 := Lib.hid (sq hbx hb1)
  have HFO := Lib.hid hfo
  have HPO := Lib.hid hpo
  have x0 : w1.cell? ⟨w.heap.size, 0, none⟩ = some (.slice FA nf fc) := by rw [Lib.cell_of_heap HX1.out]; rfl
  have x1 : w1.cell? ⟨w.heap.size, 1, none⟩ = some (.slice PA np pc) := by rw [Lib.cell_of_heap HX1.out]; rfl
  have x2 : w1.cell? ⟨w.heap.size, 2, none⟩ = some (.int .i64 (s.next : Int)) := by rw [Lib.cell_of_heap HX1.out]; rfl
  have x3 : w1.cell? ⟨w.heap.size, 3, none⟩ = some (.int .i64 (s.ser : Int)) := by rw [Lib.cell_of_heap HX1.out]; rfl
  have x4 : w1.cell? ⟨w.heap.size, 4, none⟩ = some (.int .i64 s.en) := by rw [Lib.cell_of_heap HX1.out]; rfl
  have x5 : w1.cell? ⟨w.heap.size, 5, none⟩ = some (.int .i64 s.st) := by rw [Lib.cell_of_heap HX1.out]; rfl
  have z0 := Lib.frozen_of_heap HX1.out 0
  have z1 := Lib.frozen_of_heap HX1.out 1
  have z2 := Lib.frozen_of_heap HX1.out 2
  have z3 := Lib.frozen_of_heap HX1.out 3
  have z4 := Lib.frozen_of_heap HX1.out 4
  have z5 := Lib.frozen_of_heap HX1.out 5
  have HT := Lib.hid ht
  clear hbx hx0 hr0 hz hb1 hfo hpo ht hl
  go_upto_region 2 with (fail)
  obtain ⟨w2, hw2, b2, k2, l2, s2⟩ := six_at (w := w1) (g := w.heap.size) (.slice (some ⟨F, 0, none⟩) (gs.length + 1) c) (.slice PB s.pn.length d) (.int .i64 (s.next : Int)) (.int .i64 (s.ser : Int)) (.int .i64 s.en) (.int .i64 s.st) HX1.out
  rw [← hw2]
  have HB2 := Lib.hid (l2 w.heap.size (Nat.le_refl _) w HB1.out)
  have HX2 := Lib.hid b2
  have HR2 := Lib.hid ((k2 (w.heap.size + 1) (by omega)).trans HR1.out)
  have HF2 := Lib.hid (show FrO w2 (w.heap.size + 2) (.slice (some ⟨F, 0, none⟩) (gs.length + 1) c) (gs ++ [g]) (es ++ [dd]) from HFO.out.stay fun b cs t hb ht => k2 b (fun e => by
    rw [e, HX1.out] at hb
    injection hb with hb
    injection hb with _ hb
    subst hb
    rcases ht with ht | ht <;> exact absurd ht (by decide)))
  have HP2 := Lib.hid (own_stay (w' := w2) HPO.out fun b hb => k2 b (fun e => by have := (HPO.out.lt b hb).1; omega))
  clear x0 x1 x2 x3 x4 x5 z0 z1 z2 z3 z4 z5 hw2 b2 k2 l2 s2 HX1 HR1 HB1 HFO HPO HT
  obtain ⟨F', c', es', dd', _, _, e1, hF', hFz', _, _, ht⟩ := HF2.out.top
  injection e1 with e1 _ e2
  injection e1 with e1
  injection e1 with e1
  subst e1 e2
  have x0 : w2.cell? ⟨w.heap.size, 0, none⟩ = some (.slice (some ⟨F, 0, none⟩) (gs.length + 1) c) := by rw [Lib.cell_of_heap HX2.out]; rfl
  have g3 := ht.c3
  have gz := ht.z (gs.length * 5 + 3)
  have hwr : IntKind.i64.wrap (gs.length : Int) = (gs.length : Int) := IntWalk.i64_in _ (by omega)
  clear ht
  go_upto_region 3 with (fail)
  have HF3 := Lib.hid (show FrO (w2.setCell ⟨F, gs.length * 5 + 3, none⟩ (.int .i64 x)) (w.heap.size + 2) (.slice (some ⟨F, 0, none⟩) (gs.length + 1) c) (gs ++ [phF g x]) (es ++ [dd]) by
    have := HF2.out.setH (i := gs.length) (f := g) (by simp) x
    rwa [set_mid] at this)
  have HX3 := Lib.hid ((sc_keep (w := w2) (g := F) (j := gs.length * 5 + 3) (v := .int .i64 x) (by omega : w.heap.size ≠ F)).trans HX2.out)
  have HR3 := Lib.hid ((sc_keep (w := w2) (g := F) (j := gs.length * 5 + 3) (v := .int .i64 x) (by omega : w.heap.size + 1 ≠ F)).trans HR2.out)
  have HB3 := Lib.hid (HB2.out.setCell (p := ⟨F, gs.length * 5 + 3, none⟩) (by show w.heap.size ≤ F; omega) (.int .i64 x))
  have HP3 := Lib.hid (show (w2.setCell ⟨F, gs.length * 5 + 3, none⟩ (.int .i64 x)).ownsRow (w.heap.size + 2) 99 7 (.slice PB s.pn.length d) s.pn.length (pnL s.pn) from by
    obtain ⟨cur, hF⟩ := own_ty (b := F) HF2.out.row rfl
    exact own_setP HP2.out hF (by decide))
  generalize w2.setCell ⟨F, gs.length * 5 + 3, none⟩ (.int .i64 x) = w3 at *
  clear HF2 HX2 HR2 HB2 HP2 x0 g3 gz hwr
  have x0 : w3.cell? ⟨w.heap.size, 0, none⟩ = some (.slice (some ⟨F, 0, none⟩) (gs.length + 1) c) := by rw [Lib.cell_of_heap HX3.out]; rfl
  have x1 : w3.cell? ⟨w.heap.size, 1, none⟩ = some (.slice PB s.pn.length d) := by rw [Lib.cell_of_heap HX3.out]; rfl
  have x2 : w3.cell? ⟨w.heap.size, 2, none⟩ = some (.int .i64 (s.next : Int)) := by rw [Lib.cell_of_heap HX3.out]; rfl
  have x3 : w3.cell? ⟨w.heap.size, 3, none⟩ = some (.int .i64 (s.ser : Int)) := by rw [Lib.cell_of_heap HX3.out]; rfl
  have x4 : w3.cell? ⟨w.heap.size, 4, none⟩ = some (.int .i64 s.en) := by rw [Lib.cell_of_heap HX3.out]; rfl
  have x5 : w3.cell? ⟨w.heap.size, 5, none⟩ = some (.int .i64 s.st) := by rw [Lib.cell_of_heap HX3.out]; rfl
  have r0 : w3.cell? ⟨w.heap.size + 1, 0, none⟩ = some (.slice none 0 0) := by rw [Lib.cell_of_heap HR3.out]; rfl
  have r1 : w3.cell? ⟨w.heap.size + 1, 1, none⟩ = some (.slice none 0 0) := by rw [Lib.cell_of_heap HR3.out]; rfl
  have r2 : w3.cell? ⟨w.heap.size + 1, 2, none⟩ = some (.int .i64 0) := by rw [Lib.cell_of_heap HR3.out]; rfl
  have r3 : w3.cell? ⟨w.heap.size + 1, 3, none⟩ = some (.int .i64 0) := by rw [Lib.cell_of_heap HR3.out]; rfl
  have r4 : w3.cell? ⟨w.heap.size + 1, 4, none⟩ = some (.int .i64 0) := by rw [Lib.cell_of_heap HR3.out]; rfl
  have r5 : w3.cell? ⟨w.heap.size + 1, 5, none⟩ = some (.int .i64 0) := by rw [Lib.cell_of_heap HR3.out]; rfl
  have y0 := Lib.frozen_of_heap HR3.out 0
  have y1 := Lib.frozen_of_heap HR3.out 1
  have y2 := Lib.frozen_of_heap HR3.out 2
  have y3 := Lib.frozen_of_heap HR3.out 3
  have y4 := Lib.frozen_of_heap HR3.out 4
  have y5 := Lib.frozen_of_heap HR3.out 5
  go_wp2_with fail
  obtain ⟨w7, hw7, b7, k7, l7, s7⟩ := six_at (w := w3) (g := w.heap.size + 1) (.slice (some ⟨F, 0, none⟩) (gs.length + 1) c) (.slice PB s.pn.length d) (.int .i64 (s.next : Int)) (.int .i64 (s.ser : Int)) (.int .i64 s.en) (.int .i64 s.st) HR3.out
  rw [← hw7]
  have HB7 := Lib.hid (l7 w.heap.size (Nat.le_succ _) w HB3.out)
  have HF7 := Lib.hid (show FrO w7 w.heap.size (.slice (some ⟨F, 0, none⟩) (gs.length + 1) c) (gs ++ [phF g x]) (es ++ [dd]) from (HF3.out.stay fun b cs t hb ht => k7 b (fun e => by
    rw [e, HR3.out] at hb
    injection hb with hb
    injection hb with _ hb
    subst hb
    rcases ht with ht | ht <;> exact absurd ht (by decide))).base_to (by omega))
  have HP7 := Lib.hid (own_base (own_stay (w' := w7) HP3.out fun b hb => k7 b (fun e => by have := (HP3.out.lt b hb).1; omega)) (by omega : w.heap.size ≤ w.heap.size + 2))
  clear x0 x1 x2 x3 x4 x5 r0 r1 r2 r3 r4 r5 y0 y1 y2 y3 y4 y5 hw7 k7 l7 s7
  have r0 : w7.cell? ⟨w.heap.size + 1, 0, none⟩ = some (.slice (some ⟨F, 0, none⟩) (gs.length + 1) c) := by rw [Lib.cell_of_heap b7]; rfl
  have r1 : w7.cell? ⟨w.heap.size + 1, 1, none⟩ = some (.slice PB s.pn.length d) := by rw [Lib.cell_of_heap b7]; rfl
  have r2 : w7.cell? ⟨w.heap.size + 1, 2, none⟩ = some (.int .i64 (s.next : Int)) := by rw [Lib.cell_of_heap b7]; rfl
  have r3 : w7.cell? ⟨w.heap.size + 1, 3, none⟩ = some (.int .i64 (s.ser : Int)) := by rw [Lib.cell_of_heap b7]; rfl
  have r4 : w7.cell? ⟨w.heap.size + 1, 4, none⟩ = some (.int .i64 s.en) := by rw [Lib.cell_of_heap b7]; rfl
  have r5 : w7.cell? ⟨w.heap.size + 1, 5, none⟩ = some (.int .i64 s.st) := by rw [Lib.cell_of_heap b7]; rfl
  clear b7
  refine bodyPost_ret (v := stV (.slice (some ⟨F, 0, none⟩) (gs.length + 1) c) (.slice PB s.pn.length d) s) (by simp [results, Try.results51, go_sem, r0, r1, r2, r3, r4, r5]) rfl ?_
  refine ⟨_, _, rfl, ⟨es ++ [dd], ?_⟩, HP7.out, HB7.out⟩
  rw [HG.out, setPh_snoc]
  exact HF7.out
end Go.Proofs.Ytapofohbngkekaa
