/- The player's 'passed'. Conditions: bounds. -/
import Derived.Test.YtapofohbngkekaaPnX
set_option maxRecDepth 100000
namespace Go.Proofs.Ytapofohbngkekaa
open Go.ChangeShapes Go.WideShapes Go.ChangeAt Go.RowKit
theorem pnL_get {l : List PN} {i j : Nat} {p : PN} (h : l[i]? = some p) (hj : j < 7) : (pnL l)[i * 7 + j]? = (pnC p)[j]? := by
  unfold pnL
  rw [flat_at (fun c hc => by obtain ⟨q, _, rfl⟩ := List.mem_map.1 hc; rfl) i j hj, List.getElem?_map, h]
  rfl
theorem pnL_cons (p : PN) (l : List PN) : pnL (p :: l) = pnC p ++ pnL l := by simp [pnL]
theorem pnL_set6 : ∀ {l : List PN} {i : Nat} {p : PN}, l[i]? = some p → (pnL l).set (i * 7 + 6) (.bool true) = pnL (l.set i (abP p))
  | [], i, p, h => by simp at h
  | q :: l, 0, p, h => by
    simp at h
    subst h
    rfl
  | q :: l, i + 1, p, h => by
    simp only [List.set_cons_succ, pnL_cons]
    have e : (i + 1) * 7 + 6 = (pnC q).length + (i * 7 + 6) := by simp [pnC]; omega
    rw [e, List.set_append_right _ _ (by omega), Nat.add_sub_cancel_left, pnL_set6 (l := l) (i := i) (p := p) (by simpa using h)]
/-- The panics, of which the first k have been looked at. -/
def abK (m x : Int) (k : Nat) (l : List PN) : List PN := if m = 2 then abortP x (l.take k) ++ l.drop k else l
theorem abK_zero (m x : Int) (l : List PN) : abK m x 0 l = l := by unfold abK; split <;> simp [abortP]
theorem abK_all (m x : Int) (l : List PN) {k : Nat} (h : l.length ≤ k) : abK m x k l = if m = 2 then abortP x l else l := by
  unfold abK
  rw [List.take_of_length_le h, List.drop_of_length_le h]
  simp
theorem abK_len (m x : Int) (k : Nat) (l : List PN) : (abK m x k l).length = l.length := by
  unfold abK
  split
  · simp [abortP]; omega
  · rfl
theorem abK_at {m x : Int} {k : Nat} {l : List PN} {p : PN} (h : l[k]? = some p) : (abK m x k l)[k]? = some p := by
  have hk := (List.getElem?_eq_some_iff.1 h).1
  unfold abK
  split
  · have hl : (abortP x (l.take k)).length = k := by simp [abortP]; omega
    rw [List.getElem?_append_right (by omega), hl, Nat.sub_self, List.getElem?_drop]
    simpa using h
  · exact h
theorem abK_succ {m x : Int} {k : Nat} {l : List PN} {p : PN} (h : l[k]? = some p) : abK m x (k + 1) l = if m = 2 ∧ p.ser = x then (abK m x k l).set k (abP p) else abK m x k l := by
  have hk := (List.getElem?_eq_some_iff.1 h).1
  have hd : l.drop k = p :: l.drop (k + 1) := by
    rw [List.drop_eq_getElem_cons hk]
    rw [List.getElem?_eq_getElem hk] at h
    injection h with h
    rw [h]
  unfold abK
  by_cases hm : m = 2
  · rw [if_pos hm, if_pos hm]
    have hl : (abortP x (l.take k)).length = k := by simp [abortP]; omega
    have ht : abortP x (l.take (k + 1)) = abortP x (l.take k) ++ [if p.ser = x then abP p else p] := by
      rw [List.take_add_one, h]
      simp [abortP]
    rw [ht, hd]
    by_cases hx : p.ser = x
    · rw [if_pos (show m = 2 ∧ p.ser = x from ⟨hm, hx⟩), if_pos hx]
      have := set_mid (abortP x (l.take k)) p (abP p) (l.drop (k + 1))
      rw [hl] at this
      rw [this]
      simp
    · rw [if_neg (show ¬ (m = 2 ∧ p.ser = x) from fun h => hx h.2), if_neg hx]
      simp
  · rw [if_neg hm, if_neg hm, if_neg (show ¬ (m = 2 ∧ p.ser = x) from fun h => hm h.1)]
theorem PLc.pcell {w : World} {base P Q n c i : Nat} {s : ST} {tl : List TL} {fv tv : Value} {ds : List Value} {p : PN} (h : PLc w base P s tl fv (.slice (some ⟨Q, 0, none⟩) n c) tv ds) (hp : s.pn[i]? = some p) :
    w.cell? ⟨Q, i * 7, none⟩ = some (.int .i64 p.ser) ∧ w.cell? ⟨Q, i * 7 + 6, none⟩ = some (.bool p.ab) ∧ (∀ j, w.frozen? ⟨Q, j, none⟩ = false) ∧ base ≤ Q ∧ Q < w.heap.size := by
  have hrow := h.pn
  obtain ⟨A, c', e⟩ := own_form hrow
  injection e with _ e
  subst e
  have hi := (List.getElem?_eq_some_iff.1 hp).1
  refine ⟨?_, ?_, fun j => hrow.frozenAt j, (hrow.lt Q rfl).1, (hrow.lt Q rfl).2⟩
  · have := hrow.cellAt (i * 7 + 0) (by omega)
    rw [pnL_get hp (by omega)] at this
    simpa [pnC] using this
  · rw [hrow.cellAt _ (by omega), pnL_get hp (by omega)]
    rfl
theorem PLc.abort {w : World} {base P Q n c i : Nat} {s : ST} {tl : List TL} {fv tv : Value} {ds : List Value} {p : PN} (h : PLc w base P s tl fv (.slice (some ⟨Q, 0, none⟩) n c) tv ds) (hp : s.pn[i]? = some p) :
    PLc (w.setCell ⟨Q, i * 7 + 6, none⟩ (.bool true)) base P (stPn s (s.pn.set i (abP p))) tl fv (.slice (some ⟨Q, 0, none⟩) n c) tv ds := by
  have hrow := h.pn
  obtain ⟨A, c', e⟩ := own_form hrow
  injection e with _ e
  subst e
  obtain ⟨cur, hQ⟩ := own_ty (b := Q) hrow rfl
  have hst := (hrow.stored (i * 7 + 6) (.bool true)).1
  rw [pnL_set6 hp] at hst
  have hk := KT.set hQ (i * 7 + 6) (.bool true)
  exact ⟨h.hP, h.boxK hk (by decide), h.fr.setP hQ (by decide) (by decide), by show World.ownsRow _ base 99 7 _ (s.pn.set i (abP p)).length _; rw [List.length_set]; exact hst, own_setP h.tl hQ (by decide)⟩
set_option maxHeartbeats 4000000 in
theorem passed_any (base P : Nat) (s : ST) (tl : List TL) (fs : List FR) (f : FR) (d : Value) (w : World) (h : PL base P (stFr s fs) tl w) (hd : f.ds.length = 0) (hph : f.ph = 2) (hpn : s.pn.length ≤ 100000) (hl : tl.length ≤ 1000000 - 10) (hfl : fs.length ≤ 30) :
    Calls Try.prog 90 #[.pointer (some ⟨P, 0, none⟩), frV f d] w fun e w' => Ans base P s fs f tl e w' ∧ Below base w w' := by
  obtain ⟨fv, pv, tv, ds, hc⟩ := h
  have HC := Lib.hid hc
  have HL := Lib.hid hl
  have hPlt := (Array.getElem?_eq_some_iff.1 hc.box).1
  clear hc hl
  have HH := Lib.hid (And.intro hd hph)
  by_cases h0 : fs.length = 0
  · have hfs : fs = [] := List.eq_nil_of_length_eq_zero h0
    subst hfs
    obtain ⟨A, c, rfl⟩ := own_form HC.out.fr.row
    clear hd hph h0
    go_enter Try.func90, Try.ntmps90
    go_wp2_with fail
    have HC0 := Lib.hid (HC.out.below (al (.cells #[.int .i64 f.id, .int .i64 f.mark, .int .i64 f.pan, .int .i64 f.ph, d] 93)))
    have HB0 := Lib.hid ((Below.refl base w).alloc HC.out.base_le (.cells #[.int .i64 f.id, .int .i64 f.mark, .int .i64 f.pan, .int .i64 f.ph, d] 93))
    refine Calls.mono (tell_keep base P _ tl (tl3 4 f.id 0) _ _ _ _ _ HC0.out (by have := HL.out; omega) HC0.out.base_le) ?_
    rintro e w1 ⟨rfl, ⟨tv1, h1⟩, hb1, hk1⟩
    have d0 := h1.boxc.1
    have HC1 := Lib.hid h1
    have HB1 := Lib.hid (HB0.out.trans hb1)
    clear h1 hb1 hk1 HC HC0
    go_wp2_with fail
    refine Calls.mono (over_any base P _ _ 2 2 w1 ⟨_, _, _, _, HC1.out⟩ (by have := HL.out; simp; omega)) ?_
    rintro e w2 ⟨rfl, h2, hb2⟩
    have H2 := Lib.hid h2
    have HB2 := Lib.hid (HB1.out.trans hb2)
    clear h2 hb2
    go_wp2_with fail
    go_ret
    refine ⟨.inl ⟨rfl, _, _, ?_, by rw [List.append_assoc] at H2; exact H2.out⟩, HB2.out⟩
    simp [goStep, HH.out.1, HH.out.2]
  · obtain ⟨n, hn⟩ : ∃ n, fs.length = n + 1 := ⟨fs.length - 1, by omega⟩
    obtain ⟨gs, g, rfl, hgl⟩ := snoc_of hn
    have hfr := HC.out.fr
    obtain ⟨F, c, es, dg, rfl, _, rfl, hF, hFz, _⟩ := hfr.top
    obtain ⟨PA, pc, rfl⟩ := own_form HC.out.pn
    have hgl2 : gs.length ≤ 30 := by omega
    have hpl : (stFr s (gs ++ [g])).pn.length = s.pn.length := rfl
    rw [hpl] at HC
    obtain ⟨np, hnp⟩ : ∃ k, s.pn.length = k := ⟨_, rfl⟩
    rw [hnp] at HC hpn
    have HNP := Lib.hid hnp
    clear hd hph h0 hfr hn hgl hpl hnp
    have b0 : (((gs.length : Int) + 1) == 0) = false := by simp; omega
    go_enter Try.func90, Try.ntmps90
    go_wp2_with fail
    have HC0 := Lib.hid (HC.out.below (al (.cells #[.int .i64 f.id, .int .i64 f.mark, .int .i64 f.pan, .int .i64 f.ph, d] 93)))
    have HB0 := Lib.hid ((Below.refl base w).alloc HC.out.base_le (.cells #[.int .i64 f.id, .int .i64 f.mark, .int .i64 f.pan, .int .i64 f.ph, d] 93))
    refine Calls.mono (tell_keep base P _ tl (tl3 4 f.id 0) _ _ _ _ _ HC0.out (by have := HL.out; omega) HC0.out.base_le) ?_
    rintro e w1 ⟨rfl, ⟨tv1, h1⟩, hb1, hk1⟩
    have d0 := h1.boxc.1
    have d1 := h1.boxc.2.1
    have HC1 := Lib.hid h1
    have HB1 := Lib.hid (HB0.out.trans hb1)
    have HX1 := Lib.hid ((hk1 w.heap.size (by simp) (HC.out.blk (Nat.le_refl _)).1 (HC.out.blk (Nat.le_refl _)).2).trans (heap_alloc_new w _))
    have HPF := Lib.hid (show PLc w1 base P (stPn (stFr s (gs ++ [g])) (abK f.mark f.pan 0 s.pn)) (tl ++ [tl3 4 f.id 0]) (.slice (some ⟨F, 0, none⟩) (gs.length + 1) c) (.slice PA np pc) tv1 (es ++ [dg]) by rw [abK_zero]; exact HC1.out)
    clear h1 hb1 hk1 HC0 HB0 HC HC1
    go_wp2_with fail
    clear d0 d1
    go_loopw [26] (fun i wr => ∃ k : Nat, k ≤ np ∧ i = .int .i64 (k : Int) ∧ Hid (PLc wr base P (stPn (stFr s (gs ++ [g])) (abK f.mark f.pan k s.pn)) (tl ++ [tl3 4 f.id 0]) (.slice (some ⟨F, 0, none⟩) (gs.length + 1) c) (.slice PA np pc) tv1 (es ++ [dg])) ∧ Hid (Below base w wr) ∧ Hid (wr.heap[w.heap.size]? = some (.cells #[.int .i64 f.id, .int .i64 f.mark, .int .i64 f.pan, .int .i64 f.ph, d] 93 (0, 0)))) (fun i _ => np - (intOf i).toNat)
    case atStart => exact ⟨0, Nat.zero_le _, rfl, HPF, HB1, HX1⟩
    case round =>
      obtain ⟨k, hk, rfl, HPK, HBK, HXK⟩ := hrel
      have f1 : wr.cell? ⟨w.heap.size, 1, none⟩ = some (.int .i64 f.mark) := by rw [Lib.cell_of_heap HXK.out]; rfl
      have f2 : wr.cell? ⟨w.heap.size, 2, none⟩ = some (.int .i64 f.pan) := by rw [Lib.cell_of_heap HXK.out]; rfl
      have d0 := HPK.out.boxc.1
      have d1 := HPK.out.boxc.2.1
      have hgz : w.heap.size < wr.heap.size := (Array.getElem?_eq_some_iff.1 HXK.out).1
      by_cases hlt : k < np
      · obtain ⟨x, hx⟩ : ∃ x, s.pn[k]? = some x := ⟨_, List.getElem?_eq_getElem (by rw [HNP.out]; exact hlt)⟩
        have HX := Lib.hid hx
        have hrow := HPK.out.pn
        have hln : (stPn (stFr s (gs ++ [g])) (abK f.mark f.pan k s.pn)).pn.length = np := by show (abK _ _ _ _).length = np; rw [abK_len]; exact HNP.out
        rw [hln] at hrow
        obtain ⟨Q, c', e', hQ, hQz, _, _⟩ := own_formF hrow (by omega)
        injection e' with e' _ e''
        subst e' e''
        obtain ⟨s0, s6, sz, _, _⟩ := HPK.out.pcell (i := k) (p := x) (by exact abK_at hx)
        have sz6 := sz (k * 7 + 6)
        have hlti : (k : Int) < (np : Int) := by omega
        have HQ := Lib.hid hQ
        clear hx hrow hln sz
        by_cases hm : f.mark = 2
        · have b1 : (f.mark == 2) = true := by rw [hm]; rfl
          have HM := Lib.hid hm
          clear hm
          by_cases hxs : x.ser = f.pan
          · have b2 : (x.ser == f.pan) = true := by rw [hxs]; simp
            have HS := Lib.hid hxs
            clear hxs
            go_wp2_with fail
            go_quiet (fail)
            have HP2 := Lib.hid (HPK.out.below (dr (Below.refl _ _) nq))
            have HB2 := Lib.hid (dr HBK.out nq)
            have HX2 := Lib.hid (show (wr.drewN nq).heap[w.heap.size]? = _ from HXK.out)
            clear HPK HBK HXK f1 f2 d0 d1 hgz s0 s6 sz6
            generalize wr.drewN nq = w2 at *
            have d1 := HP2.out.boxc.2.1
            obtain ⟨s0, s6, sz, _, _⟩ := HP2.out.pcell (i := k) (p := x) (by exact abK_at HX.out)
            have sz6 := sz (k * 7 + 6)
            clear sz
            go_wp2_with fail
            have HP3 := Lib.hid (HP2.out.abort (i := k) (p := x) (by exact abK_at HX.out))
            have HB3 := Lib.hid (HB2.out.setCell (p := ⟨Q, k * 7 + 6, none⟩) HQ.out (.bool true))
            have HNE := Lib.hid (show w.heap.size ≠ Q from fun e => by
              have h1 := HX2.out
              obtain ⟨cur, h2⟩ := own_ty (b := Q) HP2.out.pn rfl
              rw [e, h2] at h1
              injection h1 with h1
              injection h1 with _ h1
              exact absurd h1 (by decide))
            have HX3 := Lib.hid ((Below.heap_setCell w2 ⟨Q, k * 7 + 6, none⟩ (.bool true) w.heap.size HNE.out).trans HX2.out)
            go_roundw
            case rel =>
              refine ⟨k + 1, by omega, by go_num, Lib.hid ?_, HB3, HX3⟩
              rw [abK_succ HX.out, if_pos (show f.mark = 2 ∧ x.ser = f.pan from ⟨HM.out, HS.out⟩)]
              exact HP3.out
            case measure => simp [intOf]; omega
          · have b2 : (x.ser == f.pan) = false := by simpa using hxs
            have HS := Lib.hid hxs
            clear hxs
            go_wp2_with fail
            go_quiet (fail)
            have HP2 := Lib.hid (HPK.out.below (dr (Below.refl _ _) nq))
            have HB2 := Lib.hid (dr HBK.out nq)
            have HX2 := Lib.hid (show (wr.drewN nq).heap[w.heap.size]? = _ from HXK.out)
            clear HPK HBK HXK f1 f2 d0 d1 hgz s0 s6 sz6
            generalize wr.drewN nq = w2 at *
            go_wp2_with fail
            go_roundw
            case rel =>
              refine ⟨k + 1, by omega, by go_num, Lib.hid ?_, HB2, HX2⟩
              rw [abK_succ HX.out, if_neg (show ¬ (f.mark = 2 ∧ x.ser = f.pan) from fun h => HS.out h.2)]
              exact HP2.out
            case measure => simp [intOf]; omega
        · have b1 : (f.mark == 2) = false := by simpa using hm
          have HM := Lib.hid hm
          clear hm
          go_wp2_with fail
          go_quiet (fail)
          have HP2 := Lib.hid (HPK.out.below (dr (Below.refl _ _) nq))
          have HB2 := Lib.hid (dr HBK.out nq)
          have HX2 := Lib.hid (show (wr.drewN nq).heap[w.heap.size]? = _ from HXK.out)
          clear HPK HBK HXK f1 f2 d0 d1 hgz s0 s6 sz6
          generalize wr.drewN nq = w2 at *
          go_wp2_with fail
          go_roundw
          case rel =>
            refine ⟨k + 1, by omega, by go_num, Lib.hid ?_, HB2, HX2⟩
            rw [abK_succ HX.out, if_neg (show ¬ (f.mark = 2 ∧ x.ser = f.pan) from fun h => HM.out h.1)]
            exact HP2.out
          case measure => simp [intOf]; omega
      · obtain rfl : k = np := by omega
        have HAB := Lib.hid (show abK f.mark f.pan k s.pn = if f.mark = 2 then abortP f.pan s.pn else s.pn from abK_all _ _ _ (by rw [HNP.out]; exact Nat.le_refl _))
        rw [HAB.out] at HPK
        go_wp2_with fail
        refine Calls.mono (top_any P F gs.length c wr d0 (by omega)) ?_
        rintro e w4 ⟨rfl, hb4⟩
        have HC4 := Lib.hid (HPK.out.below hb4)
        have HB4 := Lib.hid (HBK.out.trans (hb4.mono HPK.out.base_le))
        clear HPK HBK HXK hb4 d0 d1 f1 f2 hgz
        obtain ⟨F4, c4, es4, dg4, e5, _, e4, hF4, hFz4, _, _, ht4⟩ := FrO.top (show FrO w4 base _ (gs ++ [g]) _ from HC4.out.fr)
        injection e4 with e4 _ e4'
        injection e4 with e4
        injection e4 with e4
        subst e4 e4'
        have g3 := ht4.c3
        have gz := ht4.z (gs.length * 5 + 3)
        clear ht4 e5
        go_wp2_with fail
        have HC5 := Lib.hid (HC4.out.ph rfl 2)
        have HB5 := Lib.hid (HB4.out.setCell (p := ⟨F, gs.length * 5 + 3, none⟩) hF (.int .i64 2))
        go_ret
        refine ⟨.inr ⟨rfl, _, _, ?_, ⟨_, _, _, _, HC5.out⟩⟩, HB5.out⟩
        simp [goStep, HH.out.1, HH.out.2, stFr, stPn]
end Go.Proofs.Ytapofohbngkekaa
