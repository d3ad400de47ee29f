/- The player's 'left', 'passed'. Conditions: bounds; there is a panic where one is asked for. -/
import Derived.Test.YtapofohbngkekaaPnV
set_option maxRecDepth 100000
namespace Go.Proofs.Ytapofohbngkekaa
open Go.ChangeShapes Go.WideShapes Go.ChangeAt Go.RowKit
@[reducible] def frV (f : FR) (d : Value) : Value := .agg #[.int .i64 f.id, .int .i64 f.mark, .int .i64 f.pan, .int .i64 f.ph, d]
/-- What 'left' and 'passed' answer. -/
def Ans (base P : Nat) (s : ST) (fs : List FR) (f : FR) (tl : List TL) (e : Ending) (w' : World) : Prop :=
  (e = .returned (.bool false) ∧ ∃ r l, goStep s fs f = .fin r l ∧ PL base P r (tl ++ l) w') ∨ (e = .returned (.bool true) ∧ ∃ r l, goStep s fs f = .go r l ∧ PL base P r (tl ++ l) w')
theorem PLc.blk {w : World} {base P b : Nat} {s : ST} {tl : List TL} {fv pv tv : Value} {ds : List Value} (h : PLc w base P s tl fv pv tv ds) (hb : w.heap.size ≤ b) : b ≠ P ∧ tv.ownBlock ≠ some b :=
  ⟨fun e => by have := (Array.getElem?_eq_some_iff.1 h.box).1; omega, fun e => by have := (h.tl.lt b e).2; omega⟩
/-- The last activation's phase is turned. -/
theorem PLc.ph {w : World} {base P F c : Nat} {s : ST} {tl : List TL} {pv tv : Value} {ds : List Value} {gs : List FR} {g : FR} (h : PLc w base P s tl (.slice (some ⟨F, 0, none⟩) (gs.length + 1) c) pv tv ds) (hf : s.fr = gs ++ [g]) (x : Int) :
    PLc (w.setCell ⟨F, gs.length * 5 + 3, none⟩ (.int .i64 x)) base P (stFr s (setPh s.fr x)) tl (.slice (some ⟨F, 0, none⟩) (gs.length + 1) c) pv tv ds := by
  obtain ⟨cur, hF⟩ := own_ty (b := F) h.fr.row rfl
  have hfr := h.fr
  rw [hf] at hfr
  have hnew := hfr.setH (i := gs.length) (f := g) (by simp) x
  rw [set_mid] at hnew
  have := h.turned (KT.set hF (gs.length * 5 + 3) (.int .i64 x)) hnew
  rw [hf, setPh_snoc]
  exact this
set_option maxHeartbeats 4000000 in
theorem left_any (base P : Nat) (s : ST) (tl : List TL) (fs : List FR) (f : FR) (d : Value) (w : World) (h : PL base P (stFr s fs) tl w) (hd : f.ds.length = 0) (hph : ¬ f.ph = 2) (hm : f.mark = 0 ∨ f.mark = 1 ∨ f.mark = 2) (hp : f.mark = 2 → ¬ s.pn.length = 0) (hpn : s.pn.length ≤ 100000) (hl : tl.length ≤ 1000000 - 10) (hfl : fs.length ≤ 30) :
    Calls Try.prog 89 #[.pointer (some ⟨P, 0, none⟩), frV f d] w fun e w' => Ans base P s fs f tl e w' ∧ Below base w w' := by
  obtain ⟨fv, pv, tv, ds, hc⟩ := h
  have HC := Lib.hid hc
  have HL := Lib.hid hl
  have hPlt := (Array.getElem?_eq_some_iff.1 hc.box).1
  clear hc hl
  by_cases h0 : fs.length = 0
  · have hfs : fs = [] := List.eq_nil_of_length_eq_zero h0
    subst hfs
    obtain ⟨A, c, rfl⟩ := own_form HC.out.fr.row
    have HH := Lib.hid (And.intro hd hph)
    clear hd hph hm hp h0
    go_enter Try.func89, Try.ntmps89
    go_wp2_with fail
    have HC0 := Lib.hid (HC.out.below (al (.cells #[.int .i64 f.id, .int .i64 f.mark, .int .i64 f.pan, .int .i64 f.ph, d] 93)))
    have HB0 := Lib.hid ((Below.refl base w).alloc HC.out.base_le (.cells #[.int .i64 f.id, .int .i64 f.mark, .int .i64 f.pan, .int .i64 f.ph, d] 93))
    refine Calls.mono (tell_keep base P _ tl (tl3 3 f.id 0) _ _ _ _ _ HC0.out (by have := HL.out; omega) HC0.out.base_le) ?_
    rintro e w1 ⟨rfl, ⟨tv1, h1⟩, hb1, hk1⟩
    have d0 := h1.boxc.1
    have HC1 := Lib.hid h1
    have HB1 := Lib.hid (HB0.out.trans hb1)
    clear h1 hb1 hk1 HC HC0
    go_wp2_with fail
    refine Calls.mono (over_any base P _ _ 1 0 w1 ⟨_, _, _, _, HC1.out⟩ (by have := HL.out; simp; omega)) ?_
    rintro e w2 ⟨rfl, h2, hb2⟩
    have H2 := Lib.hid h2
    have HB2 := Lib.hid (HB1.out.trans hb2)
    clear h2 hb2
    go_wp2_with fail
    go_ret
    refine ⟨.inl ⟨rfl, _, _, ?_, by rw [List.append_assoc] at H2; exact H2.out⟩, HB2.out⟩
    simp [goStep, HH.out.1, HH.out.2]
  · obtain ⟨n, hn⟩ : ∃ n, fs.length = n + 1 := ⟨fs.length - 1, by omega⟩
    obtain ⟨gs, g, rfl, hgl⟩ := snoc_of hn
    have hfr := HC.out.fr
    obtain ⟨F, c, es, dg, rfl, _, rfl, hF, hFz, _⟩ := hfr.top
    have HH := Lib.hid (And.intro hd hph)
    have hgl2 : gs.length ≤ 30 := by omega
    clear hd hph h0 hfr hn hgl
    rcases hm with hm | hm | hm
    · have HM := Lib.hid hm
      have b1 : (f.mark == 2) = false := by rw [hm]; rfl
      have b2 : (f.mark != 0) = false := by rw [hm]; rfl
      clear hm hp
      go_enter Try.func89, Try.ntmps89
      go_wp2_with fail
      have HC0 := Lib.hid (HC.out.below (al (.cells #[.int .i64 f.id, .int .i64 f.mark, .int .i64 f.pan, .int .i64 f.ph, d] 93)))
      have HB0 := Lib.hid ((Below.refl base w).alloc HC.out.base_le (.cells #[.int .i64 f.id, .int .i64 f.mark, .int .i64 f.pan, .int .i64 f.ph, d] 93))
      refine Calls.mono (tell_keep base P _ tl (tl3 3 f.id 0) _ _ _ _ _ HC0.out (by have := HL.out; omega) HC0.out.base_le) ?_
      rintro e w1 ⟨rfl, ⟨tv1, h1⟩, hb1, hk1⟩
      have d0 := h1.boxc.1
      have HC1 := Lib.hid h1
      have HB1 := Lib.hid (HB0.out.trans hb1)
      have HX1 := Lib.hid ((hk1 w.heap.size (by simp) (HC.out.blk (Nat.le_refl _)).1 (HC.out.blk (Nat.le_refl _)).2).trans (heap_alloc_new w _))
      have f1 : w1.cell? ⟨w.heap.size, 1, none⟩ = some (.int .i64 f.mark) := by rw [Lib.cell_of_heap HX1.out]; rfl
      clear h1 hb1 hk1 HC HC0 HB0
      go_wp2_with fail
      go_ret
      refine ⟨.inl ⟨rfl, _, _, ?_, ⟨_, _, _, _, HC1.out⟩⟩, HB1.out⟩
      simp [goStep, HH.out.1, HH.out.2, HM.out]
    · have HM := Lib.hid hm
      have b1 : (f.mark == 2) = false := by rw [hm]; rfl
      have b2 : (f.mark != 0) = true := by rw [hm]; rfl
      clear hm hp
      go_enter Try.func89, Try.ntmps89
      go_wp2_with fail
      have HC0 := Lib.hid (HC.out.below (al (.cells #[.int .i64 f.id, .int .i64 f.mark, .int .i64 f.pan, .int .i64 f.ph, d] 93)))
      have HB0 := Lib.hid ((Below.refl base w).alloc HC.out.base_le (.cells #[.int .i64 f.id, .int .i64 f.mark, .int .i64 f.pan, .int .i64 f.ph, d] 93))
      refine Calls.mono (tell_keep base P _ tl (tl3 3 f.id 0) _ _ _ _ _ HC0.out (by have := HL.out; omega) HC0.out.base_le) ?_
      rintro e w1 ⟨rfl, ⟨tv1, h1⟩, hb1, hk1⟩
      have d0 := h1.boxc.1
      have HC1 := Lib.hid h1
      have HB1 := Lib.hid (HB0.out.trans hb1)
      have HX1 := Lib.hid ((hk1 w.heap.size (by simp) (HC.out.blk (Nat.le_refl _)).1 (HC.out.blk (Nat.le_refl _)).2).trans (heap_alloc_new w _))
      have f1 : w1.cell? ⟨w.heap.size, 1, none⟩ = some (.int .i64 f.mark) := by rw [Lib.cell_of_heap HX1.out]; rfl
      clear h1 hb1 hk1 HC HC0 HB0
      go_wp2_with fail
      go_ret
      refine ⟨.inr ⟨rfl, _, _, ?_, ⟨_, _, _, _, HC1.out⟩⟩, HB1.out⟩
      simp [goStep, HH.out.1, HH.out.2, HM.out]
    · obtain ⟨q, p, hq, hq2⟩ := snoc_of (l := s.pn) (n := s.pn.length - 1) (by have := hp hm; omega)
      clear hq2
      have HM := Lib.hid hm
      have HQ := Lib.hid hq
      have b1 : (f.mark == 2) = true := by rw [hm]; rfl
      have b2 : (f.mark != 0) = true := by rw [hm]; rfl
      have hql : q.length ≤ 100000 := by rw [hq] at hpn; simp at hpn; omega
      clear hm hp hq
      go_enter Try.func89, Try.ntmps89
      go_wp2_with fail
      have HC0 := Lib.hid (HC.out.below (al (.cells #[.int .i64 f.id, .int .i64 f.mark, .int .i64 f.pan, .int .i64 f.ph, d] 93)))
      have HB0 := Lib.hid ((Below.refl base w).alloc HC.out.base_le (.cells #[.int .i64 f.id, .int .i64 f.mark, .int .i64 f.pan, .int .i64 f.ph, d] 93))
      refine Calls.mono (tell_keep base P _ tl (tl3 3 f.id 0) _ _ _ _ _ HC0.out (by have := HL.out; omega) HC0.out.base_le) ?_
      rintro e w1 ⟨rfl, ⟨tv1, h1⟩, hb1, hk1⟩
      have d0 := h1.boxc.1
      have HC1 := Lib.hid h1
      have HB1 := Lib.hid (HB0.out.trans hb1)
      have HX1 := Lib.hid ((hk1 w.heap.size (by simp) (HC.out.blk (Nat.le_refl _)).1 (HC.out.blk (Nat.le_refl _)).2).trans (heap_alloc_new w _))
      have f1 : w1.cell? ⟨w.heap.size, 1, none⟩ = some (.int .i64 f.mark) := by rw [Lib.cell_of_heap HX1.out]; rfl
      clear h1 hb1 hk1 HC HC0 HB0
      obtain ⟨Q, cq, rfl, _, hQz, _, _, hlc⟩ := pn_last (p := p) (l := q) (by have := HC1.out.pn; rw [show (stFr s (gs ++ [g])).pn = q ++ [p] from HQ.out] at this; exact this)
      have c11 := HC1.out.boxc.2.1
      have HLC := Lib.hid hlc
      clear hlc
      go_wp2_with fail
      refine Calls.mono (last_some P Q q.length cq w1 c11 hql) ?_
      rintro e w2 ⟨rfl, hb2⟩
      have l5 := (HLC.out.below hb2 hQz).c5
      have HC2 := Lib.hid (HC1.out.below hb2)
      have HB2 := Lib.hid (HB1.out.trans (hb2.mono HC1.out.base_le))
      have HX2 := Lib.hid ((hb2.block w.heap.size (by have := (Array.getElem?_eq_some_iff.1 HX1.out).1; exact this)).trans HX1.out)
      have f1 : w2.cell? ⟨w.heap.size, 1, none⟩ = some (.int .i64 f.mark) := by rw [Lib.cell_of_heap HX2.out]; rfl
      clear hb2 HB1 HX1 c11
      cases hr : p.rcv with
      | false =>
        rw [hr] at l5
        have HR := Lib.hid hr
        clear hr
        go_wp2_with fail
        go_ret
        refine ⟨.inr ⟨rfl, _, _, ?_, ⟨_, _, _, _, HC2.out⟩⟩, HB2.out⟩
        simp [goStep, HH.out.1, HH.out.2, HM.out, lastRec, HQ.out, HR.out]
      | true =>
        rw [hr] at l5
        have HR := Lib.hid hr
        clear hr
        go_wp2_with fail
        refine Calls.mono (drop_any base P (stFr s (gs ++ [g])) _ _ _ _ _ w2 HC2.out (by show ¬ s.pn.length = 0; rw [HQ.out]; simp) hpn) ?_
        rintro e w3 ⟨rfl, ⟨pv3, h3⟩, hb3, hk3⟩
        have HC3 := Lib.hid h3
        have HB3 := Lib.hid (HB2.out.trans hb3)
        have hgz : w.heap.size < w2.heap.size := (Array.getElem?_eq_some_iff.1 HX2.out).1
        have HX3 := Lib.hid ((hk3 w.heap.size hgz (by omega)).trans HX2.out)
        clear h3 hb3 hk3 HB2 HX2 f1 l5 hgz
        have c0 := HC3.out.boxc.1
        have f1 : w3.cell? ⟨w.heap.size, 1, none⟩ = some (.int .i64 f.mark) := by rw [Lib.cell_of_heap HX3.out]; rfl
        go_wp2_with fail
        refine Calls.mono (top_any P F gs.length c w3 c0 (by omega)) ?_
        rintro e w4 ⟨rfl, hb4⟩
        have hgz : w.heap.size < w3.heap.size := (Array.getElem?_eq_some_iff.1 HX3.out).1
        have HC4 := Lib.hid (HC3.out.below hb4)
        have HB4 := Lib.hid (HB3.out.trans (hb4.mono HC3.out.base_le))
        have HX4 := Lib.hid ((hb4.block w.heap.size hgz).trans HX3.out)
        clear HC3 HB3 HX3 hb4 c0 f1 hgz
        obtain ⟨F4, c4, es4, dg4, e5, _, e4, hF4, hFz4, _, _, ht4⟩ := FrO.top (show FrO w4 base _ (gs ++ [g]) _ from HC4.out.fr)
        injection e4 with e4 _ e4'
        injection e4 with e4
        injection e4 with e4
        subst e4 e4'
        have g3 := ht4.c3
        have gz := ht4.z (gs.length * 5 + 3)
        have HNE := Lib.hid (show w.heap.size ≠ F by omega)
        have f4 : (w4.setCell ⟨F, gs.length * 5 + 3, none⟩ (.int .i64 1)).cell? ⟨w.heap.size, 1, none⟩ = some (.int .i64 f.mark) := by
          rw [World.cell?_of_block (Below.heap_setCell _ _ _ _ (show w.heap.size ≠ F from HNE.out)), Lib.cell_of_heap HX4.out]; rfl
        clear ht4 e5
        go_wp2_with fail
        have HC5 := Lib.hid (HC4.out.ph rfl 1)
        have HB5 := Lib.hid (HB4.out.setCell (p := ⟨F, gs.length * 5 + 3, none⟩) hF (.int .i64 1))
        go_ret
        refine ⟨.inr ⟨rfl, _, _, ?_, ⟨_, _, _, _, HC5.out⟩⟩, HB5.out⟩
        simp [goStep, HH.out.1, HH.out.2, HM.out, lastRec, HQ.out, HR.out, stFr, stPn]
end Go.Proofs.Ytapofohbngkekaa
