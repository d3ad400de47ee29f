/- Plain values of panics; the player's 'recover'. Conditions: bounds; what holds of all states that are come to. -/
import Derived.Test.YtapofohbngkekaaPnZ
import Derived.Test.YtapofohbngkekaaOpValue
set_option maxRecDepth 100000
namespace Go.Proofs.Ytapofohbngkekaa
open Go.ChangeShapes Go.WideShapes Go.ChangeAt Go.RowKit
set_option maxHeartbeats 2000000 in
theorem valuePlain_may (k n : Int) (s : ByteArray) (A : Option Addr) (len cap : Nat) (w : World) (hk : mayK k) :
    Calls Try.prog 70 #[val k n s A len cap] w fun e w' => e = .returned (val k (plNv k n) (plSv k s) none 0 0) ∧ Below w.heap.size w w' := by
  rcases hk with rfl | rfl | rfl
  all_goals
    go_enter Try.func70, Try.ntmps70
    go_wp2_with fail
    refine bodyPost_ret (v := val _ _ _ none 0 0) (by simp [results, Try.results70, go_sem]; exact ⟨rfl, rfl, rfl⟩) rfl ?_
    exact ⟨rfl, sq (sq (al _) (al _)) (al _)⟩
set_option maxHeartbeats 2000000 in
theorem refPlain_may (k n : Int) (s : ByteArray) (A : Option Addr) (len cap : Nat) (w : World) (hk : mayK k) :
    Calls Try.prog 47 #[val k n s A len cap] w fun e w' => e = .returned (val k (plNv k n) (plSv k s) none 0 0) ∧ Below w.heap.size w w' := by
  rcases hk with rfl | rfl | rfl
  all_goals
    go_enter Try.func47, Try.ntmps47
    go_wp2_with fail
    refine bodyPost_ret (v := val _ _ _ none 0 0) (by simp [results, Try.results47, go_sem]; exact ⟨rfl, rfl, rfl⟩) rfl ?_
    exact ⟨rfl, sq (sq (al _) (al _)) (al _)⟩
/-- The last panic's flag. -/
theorem pnL_set5 (l : List PN) (p : PN) : (pnL (l ++ [p])).set (l.length * 7 + 5) (.bool true) = pnL (l ++ [rcP p]) := by
  rw [pnL_snoc, pnL_snoc, List.set_append_right _ _ (by rw [pnL_len]; omega), pnL_len, show l.length * 7 + 5 - l.length * 7 = 5 by omega]
  rfl
theorem PLc.recd {w : World} {base P Q n c : Nat} {s : ST} {tl : List TL} {fv tv : Value} {ds : List Value} {q : List PN} {p : PN} (h : PLc w base P s tl fv (.slice (some ⟨Q, 0, none⟩) n c) tv ds) (hs : s.pn = q ++ [p]) :
    PLc (w.setCell ⟨Q, q.length * 7 + 5, none⟩ (.bool true)) base P (stPn s (q ++ [rcP p])) tl fv (.slice (some ⟨Q, 0, none⟩) n c) tv ds := by
  have hrow := h.pn
  obtain ⟨A, c', e⟩ := own_form hrow
  injection e with _ e
  subst e
  obtain ⟨cur, hQ⟩ := own_ty (b := Q) hrow rfl
  have hst := (hrow.stored (q.length * 7 + 5) (.bool true)).1
  rw [hs, pnL_set5] at hst
  have hk := KT.set hQ (q.length * 7 + 5) (.bool true)
  rw [← hs] at hst
  have hl : s.pn.length = (q ++ [rcP p]).length := by rw [hs]; simp
  exact ⟨h.hP, h.boxK hk (by decide), h.fr.setP hQ (by decide) (by decide), by show World.ownsRow _ base 99 7 _ (q ++ [rcP p]).length _; rw [← hl]; exact hst, own_setP h.tl hQ (by decide)⟩
set_option maxHeartbeats 8000000 in
theorem recover_any (base P : Nat) (s : ST) (tl : List TL) (fs : List FR) (f : FR) (w : World) (h : PL base P s tl w) (hf : s.fr = fs ++ [f]) (hok : ∀ p ∈ s.pn, PnOk p) (hpn : s.pn.length ≤ 100000) (h30 : s.fr.length ≤ 30) (hl : tl.length ≤ 900000) :
    Calls Try.prog 71 #[.pointer (some ⟨P, 0, none⟩)] w fun e w' => e = .returned (.tuple #[]) ∧ (∃ r l, recS s f = .fin r l ∧ PL base P r (tl ++ l) w') ∧ Below base w w' := by
  obtain ⟨fv, pv, tv, ds, hc⟩ := h
  have hfr := hc.fr
  rw [hf] at hfr
  obtain ⟨F, c, es, d, rfl, hel, rfl, hF, hFz, hcl, hcm, ht⟩ := hfr.top
  have HC := Lib.hid hc
  have HT := Lib.hid ht
  have d0 := hc.boxc.1
  have HF := Lib.hid hf
  have HL := Lib.hid hl
  have HOK := Lib.hid hok
  have hPz := (Array.getElem?_eq_some_iff.1 hc.box).1
  have hfl : fs.length ≤ 29 := by rw [hf] at h30; simp at h30; omega
  clear hc ht hfr hf hl hok h30
  by_cases hp0 : s.pn.length = 0
  · have hpe := List.eq_nil_of_length_eq_zero hp0
    obtain ⟨A, pc, rfl⟩ := own_form HC.out.pn
    rw [hp0] at HC
    have HPE := Lib.hid hpe
    have d1 := HC.out.boxc.2.1
    clear hp0 hpe hpn
    go_enter Try.func71, Try.ntmps71
    go_wp2_with fail
    refine Calls.mono (top_any P F fs.length c w d0 (by omega)) ?_
    rintro e w1 ⟨rfl, hb1⟩
    have HC1 := Lib.hid (HC.out.below hb1)
    have HB1 := Lib.hid (hb1.mono HC.out.base_le)
    obtain ⟨t0, t1', t2, t3, t4, tz⟩ := HT.out.below hb1 hFz
    clear d0 d1 hb1 tz
    have d1 := HC1.out.boxc.2.1
    go_wp2_with fail
    refine Calls.mono (last_none P A pc w1 d1) ?_
    rintro e w2 ⟨rfl, hb2⟩
    have HC2 := Lib.hid (HC1.out.below hb2)
    have HB2 := Lib.hid (HB1.out.trans (hb2.mono HC1.out.base_le))
    have t1 := (hb2.cell (p := ⟨F, fs.length * 5 + 1, none⟩) (HC1.out.fr.row.lt F rfl).2).trans t1'
    clear hb2 HC1 HB1 t0 t1' t2 t3 t4 d1
    by_cases hm : (f.mark == 2) = true
    · go_wp2_with fail
      go_quiet (fail)
      have HC3 := Lib.hid (HC2.out.below (dr (Below.refl _ _) nq))
      have HB3 := Lib.hid (dr HB2.out nq)
      clear HC2 HB2 t1
      generalize w2.drewN nq = w3 at *
      go_wp2_with fail
      refine Calls.mono (tell_any base P s tl (tl3 6 0 0) w3 ⟨_, _, _, _, HC3.out⟩ (by have := HL.out; omega) HC3.out.base_le) ?_
      rintro e w4 ⟨rfl, h4, hb4⟩
      have H4 := Lib.hid h4
      have HB4 := Lib.hid (HB3.out.trans hb4)
      clear h4 hb4
      go_wp2_with fail
      go_end0
      refine ⟨rfl, ⟨_, _, ?_, H4.out⟩, HB4.out⟩
      unfold recS
      rw [HPE.out]
      rfl
    · have hm' : (f.mark == 2) = false := by simpa using hm
      clear hm
      go_wp2_with fail
      go_quiet (fail)
      have HC3 := Lib.hid (HC2.out.below (dr (Below.refl _ _) nq))
      have HB3 := Lib.hid (dr HB2.out nq)
      clear HC2 HB2 t1
      generalize w2.drewN nq = w3 at *
      go_wp2_with fail
      refine Calls.mono (tell_any base P s tl (tl3 6 0 0) w3 ⟨_, _, _, _, HC3.out⟩ (by have := HL.out; omega) HC3.out.base_le) ?_
      rintro e w4 ⟨rfl, h4, hb4⟩
      have H4 := Lib.hid h4
      have HB4 := Lib.hid (HB3.out.trans hb4)
      clear h4 hb4
      go_wp2_with fail
      go_end0
      refine ⟨rfl, ⟨_, _, ?_, H4.out⟩, HB4.out⟩
      unfold recS
      rw [HPE.out]
      rfl
  · obtain ⟨ps, p, hps, hq2⟩ := snoc_of (l := s.pn) (n := s.pn.length - 1) (by omega)
    clear hq2
    obtain ⟨Q, pc, rfl, hQ, hQz, _, _, hlc⟩ := pn_last (p := p) (l := ps) (by rw [← hps]; exact HC.out.pn)
    have HPS := Lib.hid hps
    have hpl : ps.length ≤ 100000 := by rw [hps] at hpn; simp at hpn; omega
    have HLC := Lib.hid hlc
    have d1 := HC.out.boxc.2.1
    have HPK := Lib.hid (HOK.out p (by rw [hps]; simp))
    have HGL := Lib.hid (show s.pn.getLast? = some p by rw [hps]; simp)
    clear hps hlc hpn hp0
    go_enter Try.func71, Try.ntmps71
    go_wp2_with fail
    refine Calls.mono (top_any P F fs.length c w d0 (by omega)) ?_
    rintro e w1 ⟨rfl, hb1⟩
    have HC1 := Lib.hid (HC.out.below hb1)
    have HB1 := Lib.hid (hb1.mono HC.out.base_le)
    have HT1 := Lib.hid (HT.out.below hb1 hFz)
    have HLC1 := Lib.hid (HLC.out.below hb1 hQz)
    have hFz1 : F < w1.heap.size := Nat.lt_of_lt_of_le hFz hb1.size
    have hQz1 : Q < w1.heap.size := Nat.lt_of_lt_of_le hQz hb1.size
    clear d0 d1 hb1 HC HT HLC
    have d1 := HC1.out.boxc.2.1
    go_wp2_with fail
    refine Calls.mono (last_some P Q ps.length pc w1 d1 hpl) ?_
    rintro e w2 ⟨rfl, hb2⟩
    have HC2 := Lib.hid (HC1.out.below hb2)
    have HB2 := Lib.hid (HB1.out.trans (hb2.mono HC1.out.base_le))
    have HLC2 := Lib.hid (HLC1.out.below hb2 hQz1)
    have hQz2 : Q < w2.heap.size := Nat.lt_of_lt_of_le hQz1 hb2.size
    obtain ⟨t0, t1, t2, t3, t4, tz⟩ := HT1.out.below hb2 hFz1
    obtain ⟨l0, l1, l2, l3, l4, l5, l6, lz⟩ := HLC2.out
    clear hb2 HC1 HB1 HT1 HLC1 d1 hFz1 hQz1
    by_cases hm : (f.mark == 2) = true
    · by_cases hs : (p.ser == f.pan) = true
      · cases hr : p.rcv with
        | false =>
          rw [hr] at l5
          have HR := Lib.hid hr
          have HM := Lib.hid (show f.mark = 2 by simpa using hm)
          have HS := Lib.hid (show p.ser = f.pan by simpa using hs)
          clear hr
          go_wp2_with fail
          go_quiet (fail)
          have HC3 := Lib.hid (HC2.out.below (dr (Below.refl _ _) nq))
          have HB3 := Lib.hid (dr HB2.out nq)
          have HLC3 := Lib.hid (HLC2.out.below (dr (Below.refl _ _) nq) hQz2)
          clear HC2 HB2 HLC2 t0 t1 t2 t3 t4 tz l0 l1 l2 l3 l4 l5 l6 lz hQz2
          generalize w2.drewN nq = w3 at *
          obtain ⟨l0, l1, l2, l3, l4, l5, l6, lz⟩ := HLC3.out
          rw [HR.out] at l5
          have lz5 := lz (ps.length * 7 + 5)
          go_wp2_with fail
          have HC4 := Lib.hid (HC3.out.recd HPS.out)
          have HB4 := Lib.hid (HB3.out.setCell (p := ⟨Q, ps.length * 7 + 5, none⟩) hQ (.bool true))
          clear HC3 HB3 HLC3 l0 l1 l2 l3 l4 l5 l6 lz lz5
          generalize w3.setCell ⟨Q, ps.length * 7 + 5, none⟩ (.bool true) = w4 at *
          refine Calls.mono (valuePlain_may p.k p.n p.s none 0 0 w4 HPK.out.1) ?_
          rintro e w5 ⟨rfl, hb5⟩
          have HC5 := Lib.hid (HC4.out.below hb5)
          have HB5 := Lib.hid (HB4.out.trans (hb5.mono HC4.out.base_le))
          rw [← HPK.out.2.1, ← HPK.out.2.2]
          clear hb5 HC4 HB4
          go_wp2_with fail
          refine Calls.mono (tell_any base P _ tl ⟨5, 0, 0, p.k, p.n, p.s⟩ w5 ⟨_, _, _, _, HC5.out⟩ (by have := HL.out; omega) HC5.out.base_le) ?_
          rintro e w6 ⟨rfl, h6, hb6⟩
          have H6 := Lib.hid h6
          have HB6 := Lib.hid (HB5.out.trans hb6)
          clear h6 hb6
          go_wp2_with fail
          refine bodyPost_ret (results_none rfl _ _ _) rfl ?_
          refine ⟨rfl, ⟨_, _, ?_, H6.out⟩, HB6.out⟩
          unfold recS
          rw [HGL.out]
          show (if f.mark = 2 ∧ p.ser = f.pan ∧ p.rcv = false then _ else _) = _
          rw [if_pos ⟨HM.out, HS.out, HR.out⟩, HPS.out, List.dropLast_concat]
        | true =>
          rw [hr] at l5
          have HR := Lib.hid hr
          clear hr
          go_wp2_with fail
          go_quiet (fail)
          have HC3 := Lib.hid (HC2.out.below (dr (Below.refl _ _) nq))
          have HB3 := Lib.hid (dr HB2.out nq)
          clear HC2 HB2 t1
          generalize w2.drewN nq = w3 at *
          go_wp2_with fail
          refine Calls.mono (tell_any base P s tl (tl3 6 0 0) w3 ⟨_, _, _, _, HC3.out⟩ (by have := HL.out; omega) HC3.out.base_le) ?_
          rintro e w4 ⟨rfl, h4, hb4⟩
          have H4 := Lib.hid h4
          have HB4 := Lib.hid (HB3.out.trans hb4)
          clear h4 hb4
          go_wp2_with fail
          go_end0
          refine ⟨rfl, ⟨_, _, ?_, H4.out⟩, HB4.out⟩
          unfold recS
          rw [HGL.out]
          show (if f.mark = 2 ∧ p.ser = f.pan ∧ p.rcv = false then _ else _) = _
          rw [if_neg (fun h => by have := HR.out; rw [h.2.2] at this; cases this)]
      · have hs' : (p.ser == f.pan) = false := by simpa using hs
        have HS := Lib.hid (show ¬ p.ser = f.pan by simpa using hs)
        clear hs
        go_wp2_with fail
        go_quiet (fail)
        have HC3 := Lib.hid (HC2.out.below (dr (Below.refl _ _) nq))
        have HB3 := Lib.hid (dr HB2.out nq)
        clear HC2 HB2 t1
        generalize w2.drewN nq = w3 at *
        go_wp2_with fail
        refine Calls.mono (tell_any base P s tl (tl3 6 0 0) w3 ⟨_, _, _, _, HC3.out⟩ (by have := HL.out; omega) HC3.out.base_le) ?_
        rintro e w4 ⟨rfl, h4, hb4⟩
        have H4 := Lib.hid h4
        have HB4 := Lib.hid (HB3.out.trans hb4)
        clear h4 hb4
        go_wp2_with fail
        go_end0
        refine ⟨rfl, ⟨_, _, ?_, H4.out⟩, HB4.out⟩
        unfold recS
        rw [HGL.out]
        show (if f.mark = 2 ∧ p.ser = f.pan ∧ p.rcv = false then _ else _) = _
        rw [if_neg (fun h => HS.out h.2.1)]
    · have hm' : (f.mark == 2) = false := by simpa using hm
      have HM := Lib.hid (show ¬ f.mark = 2 by simpa using hm)
      clear hm
      go_wp2_with fail
      go_quiet (fail)
      have HC3 := Lib.hid (HC2.out.below (dr (Below.refl _ _) nq))
      have HB3 := Lib.hid (dr HB2.out nq)
      clear HC2 HB2 t1
      generalize w2.drewN nq = w3 at *
      go_wp2_with fail
      refine Calls.mono (tell_any base P s tl (tl3 6 0 0) w3 ⟨_, _, _, _, HC3.out⟩ (by have := HL.out; omega) HC3.out.base_le) ?_
      rintro e w4 ⟨rfl, h4, hb4⟩
      have H4 := Lib.hid h4
      have HB4 := Lib.hid (HB3.out.trans hb4)
      clear h4 hb4
      go_wp2_with fail
      go_end0
      refine ⟨rfl, ⟨_, _, ?_, H4.out⟩, HB4.out⟩
      unfold recS
      rw [HGL.out]
      show (if f.mark = 2 ∧ p.ser = f.pan ∧ p.rcv = false then _ else _) = _
      rw [if_neg (fun h => HM.out h.1)]
end Go.Proofs.Ytapofohbngkekaa
