/- 'defers.Order' of a list kept by bits. Conditions: what comes in fits. -/
import Derived.Test.YtkkehbfceabhmaaOrdP
import Derived.Test.YtkkehbfceabhmaaCalls
import Derived.Deep.QuietTactic
import Derived.BigQuiet
import Derived.RegionTactic
set_option maxRecDepth 20000
namespace Go.Proofs.Ytkkehbfceabhmaa
open Go.ChangeShapes Go.WideShapes Go.ChangeAt Go.RowKit
theorem kept0 (w : World) (l : List CC) : Kept w.heap.size l 0 (w.alloc (.cells #[.int .i64 0, .int .i64 0, .slice none 0 0, .int .i64 0, .int .i64 0, .slice none 0 0, .int .i64 0, .int .i64 0, .slice none 0 0, .int .i64 0, .int .i64 0, .slice none 0 0, .int .i64 0, .int .i64 0, .slice none 0 0, .int .i64 0, .int .i64 0, .slice none 0 0, .int .i64 0, .int .i64 0, .slice none 0 0, .int .i64 0, .int .i64 0, .slice none 0 0] 98)) := by
  have hh := heap_alloc_new w (.cells #[.int .i64 0, .int .i64 0, .slice none 0 0, .int .i64 0, .int .i64 0, .slice none 0 0, .int .i64 0, .int .i64 0, .slice none 0 0, .int .i64 0, .int .i64 0, .slice none 0 0, .int .i64 0, .int .i64 0, .slice none 0 0, .int .i64 0, .int .i64 0, .slice none 0 0, .int .i64 0, .int .i64 0, .slice none 0 0, .int .i64 0, .int .i64 0, .slice none 0 0] 98)
  refine ⟨by simp, fun i hi => ⟨?_, Lib.frozen_of_heap hh i⟩, fun j hj => by omega⟩
  rw [Lib.cell_of_heap hh i]
  exact ⟨_, Array.getElem?_eq_getElem (by simpa using hi)⟩
set_option maxHeartbeats 4000000 in
theorem order_t (A : Option Addr) (c : Nat) (l : List CC) (w : World) (h : (Shp.slice CC.sh).rd w (· < w.heap.size) [.slice A l.length c] l) (hf : l.length * 40 ≤ 140737488351232 ∧ ∀ y ∈ l, CC.fits y) :
    Calls Try.prog 27 #[.bool true, .slice A l.length c] w (OrdP true l w) := by
  obtain ⟨j0, hj, jz0, jz1, jz2⟩ := info_parts info_call
  obtain ⟨_, _, ess, he, hlc, hcm, hA, hr, hall⟩ := h
  simp at he
  obtain ⟨rfl, rfl⟩ := he
  have hf1 := hf.1
  have HF := Lib.hid hf
  clear hf
  generalize hN : l.length = N at *
  have HN := Lib.hid hN
  clear hN
  have hK0 := kept0 w l
  have HK0 := Lib.hid hK0
  clear hK0
  go_enter Try.func27, Try.ntmps27
  go_wp2_with fail
  go_loopw [11, 36] (fun mk i wr => ∃ k : Nat, k ≤ N ∧ mk = .int .i64 (maskN l k : Nat) ∧ i = .int .i64 k ∧ Hid (∀ j < k, okAt l j) ∧ Hid (Kept w.heap.size l k wr) ∧ Below w.heap.size w wr) (fun _ i _ => N - (intOf i).toNat)
  case atStart => exact ⟨0, Nat.zero_le _, rfl, rfl, Lib.hid (fun j hj => by omega), HK0, al _⟩
  case round =>
    obtain ⟨k, hk, rfl, rfl, HK, HKp, hbel⟩ := hrel
    by_cases hlt : k < N
    · obtain ⟨b, off, cs, x, rfl, hb, hx, hrd, hcell⟩ := Shp.elem hr hall hlt HN.out.symm
      obtain ⟨A2, c2, rfl, hsr, hsf, hra, hlc2, hcm2, hA2, hz⟩ := CC.elim hrd
      have e0 := hcell 0 _ rfl
      have e1 := hcell 1 _ rfl
      have e2 := hcell 2 _ rfl
      have hsz : CC.sh.size = 3 := rfl
      rw [← hbel.cell (p := ⟨b, _, none⟩) hb] at e0 e1 e2
      rw [hsz] at e0 e1 e2
      simp only [Nat.add_zero] at e0
      have HX := Lib.hid hx
      have HSite := Lib.hid (site_of HX.out)
      have hfx : x.args.length * 8 ≤ 140737488355328 := by have : x.args.length * 8 ≤ 140737488351232 := HF.out.2 x (List.mem_of_getElem? HX.out); omega
      have HCC := Lib.hid (And.intro hsr (And.intro hsf hz))
      have HR := Lib.hid (show Rd w w.heap.size 1 A2 x.args.length (x.args.map (Value.int .i64)) from hra)
      have hbs : b < wr.heap.size := Nat.lt_of_lt_of_le hb hbel.size
      have hk0 : (0 : Int) ≤ (k : Int) := by omega
      have hk1 : (k : Int) < (N : Int) := by omega
      by_cases h1 : x.site < 0
      · have HBad := Lib.hid (show ¬ okAt l k from fun h => by have := h.1; rw [HSite.out] at this; omega)
        have d1 : decide (x.site < 0) = true := decide_eq_true h1
        clear hra hrd hcell hx hsz hr hall hA hsr hsf hz hA2 hlc2 hcm2 h1
        go_wp2_with fail
        go_quiet (fail)
        go_wp2
        go_returns
        exact .inr ⟨⟨rfl, k, by have := HN.out; omega, HBad.out⟩, rfl, dr (sq hbel (al _)) _⟩
      have d1 : decide (x.site < 0) = false := decide_eq_false h1
      by_cases h2 : 8 ≤ x.site
      · have HBad := Lib.hid (show ¬ okAt l k from fun h => by have := h.2.1; rw [HSite.out] at this; omega)
        have d2 : decide (8 ≤ x.site) = true := decide_eq_true h2
        clear hra hrd hcell hx hsz hr hall hA hsr hsf hz hA2 hlc2 hcm2 h1 h2
        go_wp2_with fail
        go_quiet (fail)
        go_wp2
        go_returns
        exact .inr ⟨⟨rfl, k, by have := HN.out; omega, HBad.out⟩, rfl, dr (sq hbel (al _)) _⟩
      have d2 : decide (8 ≤ x.site) = false := decide_eq_false h2
      by_cases h3 : k = 0
      · have HOk := Lib.hid (show okAt l k from ⟨by rw [HSite.out]; omega, by rw [HSite.out]; omega, .inl h3⟩)
        have d3 : decide (0 < k) = false := decide_eq_false (by omega)
        clear hra hrd hcell hx hsz hr hall hA hsr hsf hz hA2 hlc2 hcm2 h1 h2 h3
        go_wp2_with fail
        go_quiet (fail)
        have hok := HOk.out
        obtain ⟨s, hsg⟩ : ∃ s, sg l k = s := ⟨_, rfl⟩
        have hs8 : s < 8 := hsg ▸ sg_lt hok
        have hxs : x.site = (s : Int) := by rw [← HSite.out, sg_site hok, hsg]
        have hall' : ∀ j < k + 1, okAt l j := fun j hj => by
          by_cases e : j = k
          · rw [e]; exact hok
          · exact HK.out j (by omega)
        have hlt' : ∀ j < k, sg l j < s := fun j hj => hsg ▸ sg_mono hall' k j hj (by omega)
        have hset := set_ok (maskN l k) s hs8 (mask_lt k HK.out s hlt')
        have HM1 := Lib.hid (show maskN l k + 2 ^ s = maskN l (k + 1) by rw [← hsg]; rfl)
        rw [HM1.out] at hset
        have HSet := Lib.hid hset
        have HAll := Lib.hid hall'
        have HLt := Lib.hid hlt'
        have HSg := Lib.hid hsg
        have hB17 : Below wr.heap.size wr ((wr.alloc (.cells #[.int .i64 x.site, .int .i64 x.fn, .slice A2 x.args.length c2] 25)).drewN nq) := dr (al _) nq
        have HKp17 := Lib.hid (HKp.out.below hB17)
        have q0 : ((wr.alloc (.cells #[.int .i64 x.site, .int .i64 x.fn, .slice A2 x.args.length c2] 25)).drewN nq).cell? ⟨wr.heap.size, 0, none⟩ = some (.int .i64 x.site) := by simp
        have q1 : ((wr.alloc (.cells #[.int .i64 x.site, .int .i64 x.fn, .slice A2 x.args.length c2] 25)).drewN nq).cell? ⟨wr.heap.size, 1, none⟩ = some (.int .i64 x.fn) := by simp
        have q2 : ((wr.alloc (.cells #[.int .i64 x.site, .int .i64 x.fn, .slice A2 x.args.length c2] 25)).drewN nq).cell? ⟨wr.heap.size, 2, none⟩ = some (.slice A2 x.args.length c2) := by simp
        have hgV : wr.heap.size < ((wr.alloc (.cells #[.int .i64 x.site, .int .i64 x.fn, .slice A2 x.args.length c2] 25)).drewN nq).heap.size := by simp
        clear hok hset hall' hlt' hsg
        generalize (wr.alloc (.cells #[.int .i64 x.site, .int .i64 x.fn, .slice A2 x.args.length c2] 25)).drewN nq = V at *
        have HBV := Lib.hid hB17
        clear hB17
        go_wp2_with fail
        refine (HSet.out _).mono ?_
        rintro e V1 ⟨rfl, rfl⟩
        obtain ⟨⟨u0, k0⟩, z0⟩ := HKp17.out.2.1 (s * 3) (by omega)
        obtain ⟨⟨u1, k1⟩, z1⟩ := HKp17.out.2.1 (s * 3 + 1) (by omega)
        obtain ⟨⟨u2, k2⟩, z2⟩ := HKp17.out.2.1 (s * 3 + 2) (by omega)
        have hKV := HKp17.out.1
        have HV := Lib.hid (fun w' (hb : Below V1.heap.size V1 w') => And.intro ((hb.cell (p := ⟨wr.heap.size, 0, none⟩) hgV).trans q0) (And.intro ((hb.cell (p := ⟨wr.heap.size, 1, none⟩) hgV).trans q1) (And.intro ((hb.cell (p := ⟨wr.heap.size, 2, none⟩) hgV).trans q2) (And.intro ((hb.cell (p := ⟨w.heap.size, s * 3, none⟩) hKV).trans k0) (And.intro ((hb.cell (p := ⟨w.heap.size, s * 3 + 1, none⟩) hKV).trans k1) (And.intro ((hb.cell (p := ⟨w.heap.size, s * 3 + 2, none⟩) hKV).trans k2) (And.intro ((hb.frozen (p := ⟨w.heap.size, s * 3, none⟩) hKV).trans z0) (And.intro ((hb.frozen (p := ⟨w.heap.size, s * 3 + 1, none⟩) hKV).trans z1) ((hb.frozen (p := ⟨w.heap.size, s * 3 + 2, none⟩) hKV).trans z2)))))))))
        have HRV := Lib.hid (fun w' (hb : Below V1.heap.size V1 w') => ((HR.out.below (sq hbel (sq HBV.out hb))).more (sq hbel (sq HBV.out hb)).size : Rd w' w'.heap.size 1 A2 x.args.length (x.args.map (Value.int .i64))))
        have hs0 : (0 : Int) ≤ (s : Int) := by omega
        have hs1 : (s : Int) < 8 := by omega
        clear hKV
        go_wp2_with fail
        first
          | (go_region_law ((go_simp; (go_at_call 48); refine (copied_any _ x.fn A2 _ c2 x.args _ (HRV.out _ (by first | exact Below.refl _ _ | exact (Below.refl _ _).drew)) hfx).mono ?_; rintro e w3 ⟨A9, c9, rfl, hown9, hb9⟩; obtain ⟨g0, g1, g2, m0, m1, m2, y0, y1, y2⟩ := HV.out w3 (sq ((Below.refl _ V1).drew) hb9); go_wp2_with fail)))
          | fail "no"
        all_goals
          go_wp2_with fail
          have hb' : Below V1.heap.size V1 w3 := sq ((Below.refl _ V1).drew) hb9
          have hnew : CC.sh.rd w3 (fun b => w.heap.size < b ∧ b < w3.heap.size) [.int .i64 x.site, .int .i64 x.fn, .slice A9 x.args.length c9] x := CC.sh.more (CC.intro (v := x) HCC.out.1 HCC.out.2.1 (RdM.of_own hown9) (own_cap hown9) HCC.out.2.2) fun b hb => ⟨Nat.lt_of_lt_of_le HKp17.out.1 hb.1, hb.2⟩
          have hst := (HKp17.out.below hb').store HX.out HSg.out hs8 HLt.out hnew
          rw [hxs] at hst
          exact ⟨⟨k + 1, by omega, rfl, by go_num, HAll, Lib.hid hst, (((sq hbel (sq HBV.out hb')).setCell (Nat.le_refl _) _).setCell (Nat.le_refl _) _).setCell (Nat.le_refl _) _⟩, by simp [intOf]; omega⟩
      have d3 : decide (0 < k) = true := decide_eq_true (by omega)
      obtain ⟨j, hjk⟩ : ∃ j, k = j + 1 := ⟨k - 1, by omega⟩
      have hkj : (k : Int) - 1 = (j : Int) := by omega
      obtain ⟨b', off', cs', y, hbb, hb', hy, hrd', hcell'⟩ := Shp.elem hr hall (show j < N by omega) HN.out.symm
      simp at hbb
      obtain ⟨rfl, rfl⟩ := hbb
      obtain ⟨A3, c3, rfl, _, _, _, _⟩ := CC.elim hrd'
      have p0 := hcell' 0 _ rfl
      rw [← hbel.cell (p := ⟨b, _, none⟩) hb, hsz] at p0
      simp only [Nat.add_zero] at p0
      have HY := Lib.hid (show siteAt l (k - 1) = y.site by rw [show k - 1 = j by omega]; exact site_of hy)
      have hj0 : (0 : Int) ≤ (j : Int) := by omega
      have hj1 : (j : Int) < (N : Int) := by omega
      have hjN : j < N := by omega
      have HH := Lib.hid (And.intro h1 h2)
      have HKz := Lib.hid h3
      clear hra hrd hcell hx hsz hr hall hA hsr hsf hz hA2 hlc2 hcm2 hcell' hrd' hy h1 h2 h3 hjk
      by_cases h4 : x.site ≤ y.site
      · have HBad := Lib.hid (show ¬ okAt l k from fun h => by
          have h5 := h.2.2
          rw [HSite.out, HY.out] at h5
          have := HKz.out
          omega)
        have d4 : decide (x.site ≤ y.site) = true := decide_eq_true h4
        clear h4
        go_wp2_with fail
        go_quiet (fail)
        go_wp2
        go_returns
        exact .inr ⟨⟨rfl, k, by have := HN.out; omega, HBad.out⟩, rfl, dr (sq hbel (al _)) _⟩
      · have HOk := Lib.hid (show okAt l k from ⟨by rw [HSite.out]; have := HH.out; omega, by rw [HSite.out]; have := HH.out; omega, .inr (by rw [HSite.out, HY.out]; omega)⟩)
        have d4 : decide (x.site ≤ y.site) = false := decide_eq_false h4
        clear h4
        go_wp2_with fail
        go_quiet (fail)
        have hok := HOk.out
        obtain ⟨s, hsg⟩ : ∃ s, sg l k = s := ⟨_, rfl⟩
        have hs8 : s < 8 := hsg ▸ sg_lt hok
        have hxs : x.site = (s : Int) := by rw [← HSite.out, sg_site hok, hsg]
        have hall' : ∀ j < k + 1, okAt l j := fun j hj => by
          by_cases e : j = k
          · rw [e]; exact hok
          · exact HK.out j (by omega)
        have hlt' : ∀ j < k, sg l j < s := fun j hj => hsg ▸ sg_mono hall' k j hj (by omega)
        have hset := set_ok (maskN l k) s hs8 (mask_lt k HK.out s hlt')
        have HM1 := Lib.hid (show maskN l k + 2 ^ s = maskN l (k + 1) by rw [← hsg]; rfl)
        rw [HM1.out] at hset
        have HSet := Lib.hid hset
        have HAll := Lib.hid hall'
        have HLt := Lib.hid hlt'
        have HSg := Lib.hid hsg
        have hB17 : Below wr.heap.size wr ((wr.alloc (.cells #[.int .i64 x.site, .int .i64 x.fn, .slice A2 x.args.length c2] 25)).drewN nq) := dr (al _) nq
        have HKp17 := Lib.hid (HKp.out.below hB17)
        have q0 : ((wr.alloc (.cells #[.int .i64 x.site, .int .i64 x.fn, .slice A2 x.args.length c2] 25)).drewN nq).cell? ⟨wr.heap.size, 0, none⟩ = some (.int .i64 x.site) := by simp
        have q1 : ((wr.alloc (.cells #[.int .i64 x.site, .int .i64 x.fn, .slice A2 x.args.length c2] 25)).drewN nq).cell? ⟨wr.heap.size, 1, none⟩ = some (.int .i64 x.fn) := by simp
        have q2 : ((wr.alloc (.cells #[.int .i64 x.site, .int .i64 x.fn, .slice A2 x.args.length c2] 25)).drewN nq).cell? ⟨wr.heap.size, 2, none⟩ = some (.slice A2 x.args.length c2) := by simp
        have hgV : wr.heap.size < ((wr.alloc (.cells #[.int .i64 x.site, .int .i64 x.fn, .slice A2 x.args.length c2] 25)).drewN nq).heap.size := by simp
        clear hok hset hall' hlt' hsg
        generalize (wr.alloc (.cells #[.int .i64 x.site, .int .i64 x.fn, .slice A2 x.args.length c2] 25)).drewN nq = V at *
        have HBV := Lib.hid hB17
        clear hB17
        go_wp2_with fail
        refine (HSet.out _).mono ?_
        rintro e V1 ⟨rfl, rfl⟩
        obtain ⟨⟨u0, k0⟩, z0⟩ := HKp17.out.2.1 (s * 3) (by omega)
        obtain ⟨⟨u1, k1⟩, z1⟩ := HKp17.out.2.1 (s * 3 + 1) (by omega)
        obtain ⟨⟨u2, k2⟩, z2⟩ := HKp17.out.2.1 (s * 3 + 2) (by omega)
        have hKV := HKp17.out.1
        have HV := Lib.hid (fun w' (hb : Below V1.heap.size V1 w') => And.intro ((hb.cell (p := ⟨wr.heap.size, 0, none⟩) hgV).trans q0) (And.intro ((hb.cell (p := ⟨wr.heap.size, 1, none⟩) hgV).trans q1) (And.intro ((hb.cell (p := ⟨wr.heap.size, 2, none⟩) hgV).trans q2) (And.intro ((hb.cell (p := ⟨w.heap.size, s * 3, none⟩) hKV).trans k0) (And.intro ((hb.cell (p := ⟨w.heap.size, s * 3 + 1, none⟩) hKV).trans k1) (And.intro ((hb.cell (p := ⟨w.heap.size, s * 3 + 2, none⟩) hKV).trans k2) (And.intro ((hb.frozen (p := ⟨w.heap.size, s * 3, none⟩) hKV).trans z0) (And.intro ((hb.frozen (p := ⟨w.heap.size, s * 3 + 1, none⟩) hKV).trans z1) ((hb.frozen (p := ⟨w.heap.size, s * 3 + 2, none⟩) hKV).trans z2)))))))))
        have HRV := Lib.hid (fun w' (hb : Below V1.heap.size V1 w') => ((HR.out.below (sq hbel (sq HBV.out hb))).more (sq hbel (sq HBV.out hb)).size : Rd w' w'.heap.size 1 A2 x.args.length (x.args.map (Value.int .i64))))
        have hs0 : (0 : Int) ≤ (s : Int) := by omega
        have hs1 : (s : Int) < 8 := by omega
        clear hKV
        go_wp2_with fail
        first
          | (go_region_law ((go_simp; (go_at_call 48); refine (copied_any _ x.fn A2 _ c2 x.args _ (HRV.out _ (by first | exact Below.refl _ _ | exact (Below.refl _ _).drew)) hfx).mono ?_; rintro e w3 ⟨A9, c9, rfl, hown9, hb9⟩; obtain ⟨g0, g1, g2, m0, m1, m2, y0, y1, y2⟩ := HV.out w3 (sq ((Below.refl _ V1).drew) hb9); go_wp2_with fail)))
          | fail "no"
        all_goals
          go_wp2_with fail
          have hb' : Below V1.heap.size V1 w3 := sq ((Below.refl _ V1).drew) hb9
          have hnew : CC.sh.rd w3 (fun b => w.heap.size < b ∧ b < w3.heap.size) [.int .i64 x.site, .int .i64 x.fn, .slice A9 x.args.length c9] x := CC.sh.more (CC.intro (v := x) HCC.out.1 HCC.out.2.1 (RdM.of_own hown9) (own_cap hown9) HCC.out.2.2) fun b hb => ⟨Nat.lt_of_lt_of_le HKp17.out.1 hb.1, hb.2⟩
          have hst := (HKp17.out.below hb').store HX.out HSg.out hs8 HLt.out hnew
          rw [hxs] at hst
          exact ⟨⟨k + 1, by omega, rfl, by go_num, HAll, Lib.hid hst, (((sq hbel (sq HBV.out hb')).setCell (Nat.le_refl _) _).setCell (Nat.le_refl _) _).setCell (Nat.le_refl _) _⟩, by simp [intOf]; omega⟩
    · obtain rfl : k = N := by omega
      have HSt := Lib.hid hbel
      have HK3 := Lib.hid (HKp.out)
      have hNl := Lib.hid (show l.length = k from HN.out)
      clear hlt hr hall hA hcm hlc
      go_wp2_with fail
      generalize hW3 : wr = W3 at *
      clear hW3
      go_loopw [11, 6] (fun mk o w9 => ∃ j : Nat, j ≤ k ∧ mk = .int .i64 (maskN l j : Nat) ∧ Own CC.sh 25 w9 W3.heap.size (fun _ => False) o (l.drop j).reverse ∧ Below W3.heap.size W3 w9) (fun mk _ _ => (intOf mk).toNat)
      case atStart =>
        refine ⟨k, Nat.le_refl _, rfl, ?_, Below.refl _ _⟩
        rw [List.drop_eq_nil_of_le (by have := hNl.out; omega)]
        exact Own.nil
      case round =>
        obtain ⟨j, hjk9, rfl, hown, hb9⟩ := hrel
        have HO := Lib.hid hown
        clear hown
        rcases Nat.eq_zero_or_pos j with h0 | hpos
        · have hm0 : maskN l j = 0 := by rw [h0]; rfl
          have HD := Lib.hid (show (l.drop j).reverse = l.reverse by rw [h0, List.drop_zero])
          clear h0
          rw [hm0]
          go_wp2_with fail
          refine (defersTop_no 0 (by omega) _).mono ?_
          rintro e w1 ⟨rfl, rfl⟩
          go_wp2_with fail
          go_returns
          refine .inl ⟨fun _ q hq => HK.out q (by have := hNl.out; omega), _, rfl, ?_, sq HSt.out hb9⟩
          rw [← HD.out]
          exact HO.out.read
        · obtain ⟨q, hq⟩ : ∃ q, j = q + 1 := ⟨j - 1, by omega⟩
          have hok : okAt l q := HK.out q (by omega)
          obtain ⟨s, hsg⟩ : ∃ s, sg l q = s := ⟨_, rfl⟩
          have hs8 : s < 8 := hsg ▸ sg_lt hok
          have hmq := mask_lt q (fun i hi => HK.out i (by omega)) s (fun i hi => hsg ▸ sg_mono HK.out q i hi (by omega))
          have hmj : maskN l j = maskN l q + 2 ^ s := by rw [hq, ← hsg]; rfl
          have hps : 2 ^ (s + 1) = 2 * 2 ^ s := by rw [Nat.pow_succ]; omega
          have HTop := Lib.hid (top_ok (maskN l j) s hs8 (by omega) (by omega))
          have hdr := drop_ok (maskN l j) s hs8 (by omega) (by omega)
          rw [show maskN l j - 2 ^ s = maskN l q by omega] at hdr
          have HDrop := Lib.hid hdr
          have HLess := Lib.hid (show maskN l q < maskN l j by have := Nat.two_pow_pos s; omega)
          obtain ⟨x, A2, c2, hx, q0, q1, q2, hrd⟩ := HK3.out.2.2 q (by omega)
          rw [hsg] at q0 q1 q2
          have hKV := HK3.out.1
          have g0 := (hb9.cell (p := ⟨w.heap.size, s * 3, none⟩) hKV).trans q0
          have g1 := (hb9.cell (p := ⟨w.heap.size, s * 3 + 1, none⟩) hKV).trans q1
          have g2 := (hb9.cell (p := ⟨w.heap.size, s * 3 + 2, none⟩) hKV).trans q2
          have HX := Lib.hid hx
          have HRD := Lib.hid (show CC.sh.rd W3 (· < W3.heap.size) [.int .i64 x.site, .int .i64 x.fn, .slice A2 x.args.length c2] x from CC.sh.more hrd fun b hb => hb.2)
          have HQ := Lib.hid hq
          have hs0 : (0 : Int) ≤ (s : Int) := by omega
          have hs1 : (s : Int) < 8 := by omega
          have hsum : ((l.drop j).reverse).length + 1 ≤ k := by rw [List.length_reverse, List.length_drop, hNl.out]; omega
          have hsz9 := hb9.size
          have HE := Lib.hid (fun o => Own.elder (S := CC.sh) HO.out (W := wr.alloc o) (al _) (Shp.stay (S := CC.sh) HRD.out (sq hb9 (al _))) (Nat.le_refl _) (by simp; omega))
          clear hdr hrd hx hq hmq hmj hps hok hsg hpos q0 q1 q2
          go_wp2_with fail
          refine (HTop.out _).mono ?_
          rintro e w1 ⟨rfl, hw1⟩
          subst hw1
          go_wp2_with (at_builtin; refine wpList_append_Own (S := CC.sh) rfl _ _ 22 rfl W3.heap.size 25 j0 _ 40 Try.underlying22 hj jz0 jz1 jz2 rfl (by show 0 < 3; omega) (fun _ => False) _ _ rfl (HE.out _).1 _ _ 1 1 _ _ [x] rfl (Rd.one _ _ _ 3 rfl _ (by simp)) (by simp) rfl (HE.out _).2 (by unfold maxLen; omega) (by omega) (by simp; omega) ?_; intro A4 c4 w4 hown4 hgrow4 _)
          refine (HDrop.out _).mono ?_
          rintro e w5 ⟨rfl, hw5⟩
          subst hw5
          go_wp2_with fail
          refine ⟨⟨q, by have := HQ.out; omega, rfl, ?_, hb9.grown2 HO.out (al _) hgrow4⟩, ?_⟩
          · have e : (l.drop q).reverse = (l.drop j).reverse ++ [x] := by
              have hql : q < l.length := (List.getElem?_eq_some_iff.1 HX.out).1
              have hx := HX.out
              rw [List.getElem?_eq_getElem hql] at hx
              injection hx with hx
              rw [HQ.out, List.drop_eq_getElem_cons hql, List.reverse_cons, hx]
            rw [e]
            rw [List.length_reverse, List.length_drop] at hown4
            exact hown4
          · have := HLess.out
            simp [intOf]
            omega
end Go.Proofs.Ytkkehbfceabhmaa
