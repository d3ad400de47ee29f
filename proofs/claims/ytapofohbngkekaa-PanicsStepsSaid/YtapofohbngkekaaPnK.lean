/- The document's 'goOn': a deferred call is started. Conditions: what holds of all states that are come to. -/
import Derived.Test.YtapofohbngkekaaPoH
import Derived.Deep.RegionHeld3
set_option maxRecDepth 100000
namespace Go.Proofs.Ytapofohbngkekaa
open Go.ChangeShapes Go.WideShapes Go.ChangeAt Go.RowKit
section
variable (FA PA : Option Addr) (nf fc np pc : Nat) (s : ST) (fs : List FR) (f : FR) (M : Nat → Prop) (w : World) (hsm : STm w M (.slice FA nf fc) (.slice PA np pc) s) (hM : ∀ b, M b → b < w.heap.size) (hf : s.fr = fs ++ [f])
def mkO (f : FR) : Int := if f.ph = 2 then 2 else 1
def serO (s : ST) (f : FR) : Int := if f.ph = 2 then lastSer s.pn else -1
set_option maxHeartbeats 60000000 in
include hsm hM hf in
theorem goOn_start (hd : ¬ f.ds.length = 0) (hnf : nf ≤ 1000) (hdl : f.ds.length ≤ 100000) (hpl : np ≤ 100000) (hnx : s.next ≤ 1000000) (hp : f.ph = 2 → ¬ s.pn.length = 0) :
    Calls Try.prog 50 #[stV (.slice FA nf fc) (.slice PA np pc) s] w (GoP s M w) := by
  have hs := hsm.r hM
  have HSM := Lib.hid hsm
  have HMM := Lib.hid hM
  clear hsm hM
  obtain ⟨FA0, fc0, dso, ef, _, _, hfm⟩ := HSM.out.fr
  have hfr := hfm.r HMM.out
  injection ef with ef1 ef2 ef3
  subst ef1 ef3
  have HFR := Lib.hid hfr
  have HFM := Lib.hid hfm
  clear ef2
  clear hfr hfm
  obtain ⟨b, off, D, dc, rfl, hb, hnf', e0, e1, e2, e3, e4, hdc, hdm, hdr, _, _⟩ := hs.top hf
  have HS := Lib.hid hs
  have HF := Lib.hid hf
  have HP := Lib.hid hp
  have HS30 := Lib.hid (fun (h : 30 ≤ s.fr.length) => show goStep s fs f = .fin (overS s 6 0) [tl3 7 6 0] by
    unfold goStep
    rw [if_neg hd, if_pos h])
  have HS29 := Lib.hid (fun (h : ¬ 30 ≤ s.fr.length) => show goStep s fs f = .fin (pushS (stFr s (fs ++ [dsF f f.ds.dropLast])) (mkO f) (serO s f)) [tl3 2 (f.ds.getLastD 0) s.next] by
    unfold goStep
    rw [if_neg hd, if_neg h]
    rfl)
  have hfl : fs.length ≤ 1000 := by omega
  obtain ⟨k, hm⟩ : ∃ k, f.ds.length = k + 1 := ⟨f.ds.length - 1, by omega⟩
  obtain ⟨xs, x, hxs, hxl⟩ := snoc_of hm
  obtain ⟨bd, offd, rfl, hbd, hcd⟩ := hdr.2 (by omega)
  have hcx : w.cell? ⟨bd, offd + k, none⟩ = some (.int .i64 x) := hcd k _ (by rw [hxs, List.map_append, List.getElem?_append_right (by simp [hxl])]; simp [hxl])
  rw [hm] at e4 hd hdl hdc
  have hm0 : (0 : Int) < (k : Int) + 1 := by omega
  have hwk : IntKind.i64.wrap (k : Int) = (k : Int) := IntWalk.i64_in _ (by omega)
  have hkd : (k : Int) ≤ (dc : Int) := by omega
  have HXS := Lib.hid hxs
  have HD0 := Lib.hid (fun d (hd0 : dso[fs.length]? = some d) => show d = .slice (some ⟨bd, offd, none⟩) (k + 1) dc from by
    have hi : s.fr[fs.length]? = some f := by rw [HF.out]; simp
    have h1 : (frL s.fr dso)[fs.length * 5 + 4]? = (frC f d)[4]? := frL_get hi hd0 (by omega)
    obtain ⟨b', off', eb, hb', hcell'⟩ := HFR.out.row.2 (by rw [HF.out]; simp)
    injection eb with eb
    injection eb with eb1 eb2
    subst eb1 eb2
    have h2 := hcell' (fs.length * 5 + 4) d (by rw [h1]; rfl)
    rw [← Nat.add_assoc, e4] at h2
    injection h2 with h2
    exact h2.symm)
  have HXL := Lib.hid hxl
  clear hcd hxs hxl
  have hnf2 : nf = s.fr.length := by rw [hf]; simp; omega
  have HN := Lib.hid hnf2
  have HM := Lib.hid hm
  subst hnf'
  clear hs hf hd hp hdc hdm hdr hm hnf2
  go_enter Try.func50, Try.ntmps50
  go_upto_if 30 with (fail)
  have HW := Lib.hid (boxes3 w (.slice (some ⟨b, off, none⟩) (fs.length + 1) fc) (.slice PA np pc) s (frC f (.slice (some ⟨bd, offd, none⟩) (k + 1) dc)))
  unfold pre3 at HW
  simp only [frC] at HW
  generalize ((w.alloc (.cells #[.slice (some ⟨b, off, none⟩) (fs.length + 1) fc, .slice PA np pc, .int .i64 (s.next : Int), .int .i64 (s.ser : Int), .int .i64 s.en, .int .i64 s.st] 56)).alloc (.cells #[.slice none 0 0, .slice none 0 0, .int .i64 0, .int .i64 0, .int .i64 0, .int .i64 0] 56)).alloc (.cells #[.int .i64 f.id, .int .i64 f.mark, .int .i64 f.pan, .int .i64 f.ph, .slice (some ⟨bd, offd, none⟩) (k + 1) dc] 93) = wa at *
  obtain ⟨hX, hR, hY, hBa, hza⟩ := HW.out
  clear HW
  have HX := Lib.hid hX
  have HR := Lib.hid hR
  have HY := Lib.hid hY
  have HBA := Lib.hid hBa
  have HZA := Lib.hid hza
  clear hX hR hY hBa hza
  go_cut [7, 8] from 31 to 39 (fun a c wx => a = .int .i64 (mkO f) ∧ c = .int .i64 (serO s f) ∧ ∃ n, wx = wa.drewN n)
  case first =>
    by_cases hph : f.ph = 2
    · have hs := HS.out
      obtain ⟨q, p, hq, hq0⟩ := snoc_of (l := s.pn) (n := s.pn.length - 1) (by have := HP.out hph; omega)
      obtain ⟨bp, offp, rfl, hbp, hnp, p0, _, _⟩ := hs.lastP hq
      subst hnp
      have b1 : (f.ph == 2) = true := by rw [hph]; rfl
      have hwr : IntKind.i64.wrap (q.length : Int) = (q.length : Int) := IntWalk.i64_in _ (by omega)
      have hql : (q.length : Int) < (q.length : Int) + 1 := by omega
      have HE := Lib.hid (show p.ser = serO s f by unfold serO lastSer; rw [if_pos hph, hq]; simp)
      have HE2 := Lib.hid (show (2 : Int) = mkO f by unfold mkO; rw [if_pos hph])
      have p0a := (HBA.out.cell (p := ⟨bp, offp + q.length * 7, none⟩) hbp).trans p0
      have x1a := HX.out.c1
      clear hs hph hq hq0 p0
      go_wp2_with fail
      go_quiet (fail)
      go_wp2_with fail
      go_meet
      case rel => exact ⟨by rw [← HE2.out], by rw [← HE.out], _, rfl⟩
    · have b1 : (f.ph == 2) = false := by simpa using hph
      have HE := Lib.hid (show (-1 : Int) = serO s f by unfold serO; rw [if_neg hph])
      have HE2 := Lib.hid (show (1 : Int) = mkO f by unfold mkO; rw [if_neg hph])
      clear hph
      go_wp2_with fail
      go_meet
      case rel => exact ⟨by rw [← HE2.out], by rw [← HE.out], 0, rfl⟩
  case rest =>
    obtain ⟨rfl, rfl, nq, rfl⟩ := hcut
    have HX := Lib.hid (SB.to (W' := wa.drewN nq) HX.out rfl)
    have HR := Lib.hid (SB.to (W' := wa.drewN nq) HR.out rfl)
    have HY := Lib.hid (show (wa.drewN nq).heap[w.heap.size + 2]? = _ from HY.out)
    have HBA := Lib.hid (dr HBA.out nq)
    have HZA := Lib.hid (show (wa.drewN nq).heap.size = w.heap.size + 3 from HZA.out)
    generalize wa.drewN nq = wa at *
    have xa0 := HX.out.c0
    have xa1 := HX.out.c1
    have xa2 := HX.out.c2
    have xa3 := HX.out.c3
    have xa4 := HX.out.c4
    have xa5 := HX.out.c5
    clear e0 e1 e2 e3 e4
    go_wp2_with fail
    clear xa0 xa1 xa2 xa3 xa4 xa5
    by_cases h30 : 30 ≤ fs.length + 1
    · refine Calls.mono (pushed_no (some ⟨b, off, none⟩) PA (fs.length + 1) fc np pc s (mkO f) (serO s f) wa HN.out h30) ?_
      rintro e w2 ⟨rfl, hb2⟩
      have HST := Lib.hid (HS30.out (by rw [HF.out]; simp; omega))
      have HX2 := Lib.hid (SB.to HX.out (hb2.block _ HX.out.lt))
      have HR2 := Lib.hid (SB.to HR.out (hb2.block _ HR.out.lt))
      have HB2 := Lib.hid (sq HBA.out hb2)
      have hz2 : w.heap.size + 3 ≤ w2.heap.size := by have := hb2.size; have := HZA.out; omega
      have x0 := HX2.out.c0
      have x1 := HX2.out.c1
      have x2 := HX2.out.c2
      have x3 := HX2.out.c3
      have x4 := HX2.out.c4
      have x5 := HX2.out.c5
      have hxl : w.heap.size < w2.heap.size := HX2.out.lt
      clear hb2
      go_wp2_with fail
      refine Calls.mono (ended_any (some ⟨b, off, none⟩) PA (fs.length + 1) fc np pc s 6 0 _) ?_
      rintro e w3 ⟨tv, rfl, htv, hb3⟩
      have HTV := Lib.hid htv
      obtain ⟨TA, tc, rfl, _, _, _⟩ := htv
      have HR3 := Lib.hid (SB.to HR2.out ((hb3.block (w.heap.size + 1) (by simp; omega)).trans (Lib.alloc_old _ _ _ (by omega))))
      have HB3 := Lib.hid (sq (HB2.out.alloc (by omega) (.cells #[.slice (some ⟨b, off, none⟩) (fs.length + 1) fc, .slice PA np pc, .int .i64 (s.next : Int), .int .i64 (s.ser : Int), .int .i64 s.en, .int .i64 s.st] 56)) hb3)
      clear hb3 x0 x1 x2 x3 x4 x5 HX2 HR2 HB2
      have r0 := HR3.out.c0
      have r1 := HR3.out.c1
      have r2 := HR3.out.c2
      have r3 := HR3.out.c3
      have r4 := HR3.out.c4
      have r5 := HR3.out.c5
      have y0 := HR3.out.z 0
      have y1 := HR3.out.z 1
      have y2 := HR3.out.z 2
      have y3 := HR3.out.z 3
      have y4 := HR3.out.z 4
      have y5 := HR3.out.z 5
      go_wp2_with fail
      obtain ⟨w7, hw7, b7, k7, l7, s7⟩ := six_at (w := w3) (g := w.heap.size + 1) (.slice (some ⟨b, off, none⟩) (fs.length + 1) fc) (.slice PA np pc) (.int .i64 ((overS s 6 0).next : Int)) (.int .i64 ((overS s 6 0).ser : Int)) (.int .i64 (overS s 6 0).en) (.int .i64 (overS s 6 0).st) HR3.out
      rw [← hw7]
      have hR7 : SB w7 (w.heap.size + 1) (.slice (some ⟨b, off, none⟩) (fs.length + 1) fc) (.slice PA np pc) (overS s 6 0) := b7
      have HB7 := Lib.hid (l7 w.heap.size (Nat.le_succ _) w HB3.out)
      clear r0 r1 r2 r3 r4 r5 y0 y1 y2 y3 y4 y5 hw7
      have HS7 := Lib.hid (show STm w7 (fun b => M b ∨ (w.heap.size ≤ b ∧ b < w7.heap.size)) (.slice (some ⟨b, off, none⟩) (fs.length + 1) fc) (.slice PA np pc) (overS s 6 0) from by
        obtain ⟨k1, k2⟩ := (HSM.out.keep fun p hp => HB7.out.cell (HMM.out _ hp)).more (M' := fun b => M b ∨ (w.heap.size ≤ b ∧ b < w7.heap.size)) fun b h => .inl h
        exact ⟨k1, k2⟩)
      have HT7 := Lib.hid (show TLm w7 (fun b => w.heap.size ≤ b ∧ b < w7.heap.size) (.slice TA [tl3 7 6 0].length tc) [tl3 7 6 0] from (HTV.out.keep fun p hp => World.cell?_of_block (k7 p.block (by have := hp.1; simp at this; omega))).more fun b h => ⟨by have := h.1; simp at this; omega, by have := h.2; omega⟩)
      clear k7 l7 s7 b7
      have r0 := hR7.c0
      have r1 := hR7.c1
      have r2 := hR7.c2
      have r3 := hR7.c3
      have r4 := hR7.c4
      have r5 := hR7.c5
      clear hR7
      refine bodyPost_ret (v := .tuple #[stV (.slice (some ⟨b, off, none⟩) (fs.length + 1) fc) (.slice PA np pc) (overS s 6 0), .slice TA 1 tc]) (by simp [results, Try.results50, go_sem, r0, r1, r2, r3, r4, r5, overS]) rfl ?_
      exact ⟨_, _, _, _, _, .done HF.out HST.out, rfl, HS7.out, HT7.out, HB7.out⟩
    · have hfrw := (HFR.out.into HBA.out).more (by have := HZA.out; omega : w.heap.size ≤ wa.heap.size)
      refine Calls.mono (pushed_yes (some ⟨b, off, none⟩) PA (fs.length + 1) fc np pc s dso (mkO f) (serO s f) wa HN.out (by omega) hfrw hnx) ?_
      rintro e w2 ⟨F, c2, rfl, hown, hb2⟩
      have HST := Lib.hid (HS29.out (by rw [HF.out]; simp; omega))
      have HOW := Lib.hid hown
      have hF := (hown.lt F rfl)
      obtain ⟨es, d0, hes, hel⟩ := snoc_of (l := dso) (n := fs.length) (by rw [HFR.out.len, HF.out]; simp)
      have hd0 : d0 = .slice (some ⟨bd, offd, none⟩) (k + 1) dc := HD0.out d0 (by rw [hes, ← hel]; simp)
      subst hd0
      have HQ4 := Lib.hid (show w2.cell? ⟨F, fs.length * 5 + 4, none⟩ = some (.slice (some ⟨bd, offd, none⟩) (k + 1) dc) ∧ w2.frozen? ⟨F, fs.length * 5 + 4, none⟩ = false from ⟨by
        rw [hown.cellAt _ (by omega)]
        show (frL (s.fr ++ [_]) (dso ++ [_]))[_]? = _
        rw [HF.out, hes, frL_mid hel f _ _ _ 4 (by omega)]
        rfl, hown.frozenAt _⟩)
      have HES := Lib.hid hes
      have HX2 := Lib.hid (SB.to HX.out (hb2.block _ HX.out.lt))
      have HR2 := Lib.hid (SB.to HR.out (hb2.block _ HR.out.lt))
      have HY2 := Lib.hid ((hb2.block (w.heap.size + 2) (by have := HZA.out; omega)).trans HY.out)
      have HB2 := Lib.hid (sq HBA.out hb2)
      have HF2 := Lib.hid (show w.heap.size + 3 ≤ F ∧ F < w2.heap.size from ⟨by have := hF.1; have := HZA.out; omega, hF.2⟩)
      clear hb2 hown hfrw hF hes hel
      have HT := Lib.hid (show SB (w2.alloc (.cells #[.slice (some ⟨F, 0, none⟩) (fs.length + 1 + 1) c2, .slice PA np pc, .int .i64 ((pushS s (mkO f) (serO s f)).next : Int), .int .i64 ((pushS s (mkO f) (serO s f)).ser : Int), .int .i64 (pushS s (mkO f) (serO s f)).en, .int .i64 (pushS s (mkO f) (serO s f)).st] 56)) w2.heap.size (.slice (some ⟨F, 0, none⟩) (fs.length + 1 + 1) c2) (.slice PA np pc) (pushS s (mkO f) (serO s f)) from heap_alloc_new w2 _)
      have hx2z : w.heap.size < w2.heap.size := HX2.out.lt
      have hFz : F < w2.heap.size := HF2.out.2
      have y4 : w2.cell? ⟨w.heap.size + 1 + 1, 4, none⟩ = some (.slice (some ⟨bd, offd, none⟩) (k + 1) dc) := by rw [Lib.cell_of_heap HY2.out]; rfl
      have hyz : w.heap.size + 1 + 1 < w2.heap.size := (Array.getElem?_eq_some_iff.1 HY2.out).1
      have hwf : IntKind.i64.wrap (fs.length : Int) = (fs.length : Int) := IntWalk.i64_in _ (by omega)
      have hF1 : (fs.length : Int) < (fs.length : Int) + 1 + 1 := by omega
      have q4 : w2.cell? ⟨F, fs.length * 5 + 4, none⟩ = some (.slice (some ⟨bd, offd, none⟩) (k + 1) dc) := HQ4.out.1
      have q4z : w2.frozen? ⟨F, fs.length * 5 + 4, none⟩ = false := HQ4.out.2
      go_upto_region 11 with (fail)
      generalize hw3 : w2.alloc (.cells #[.slice (some ⟨F, 0, none⟩) (fs.length + 1 + 1) c2, .slice PA np pc, .int .i64 ((pushS s (mkO f) (serO s f)).next : Int), .int .i64 ((pushS s (mkO f) (serO s f)).ser : Int), .int .i64 (pushS s (mkO f) (serO s f)).en, .int .i64 (pushS s (mkO f) (serO s f)).st] 56) = w3 at *
      have HB23 := Lib.hid (show Below w2.heap.size w2 w3 from hw3 ▸ al _)
      clear hw3
      have t0 := HT.out.c0
      have y4 := (HB23.out.cell (p := ⟨w.heap.size + 1 + 1, 4, none⟩) hyz).trans y4
      go_still_tail 10, (by kernel_rfl)
      change wpList _ _ _ _ _ w3.drew
      have HB24 := Lib.hid (HB23.out.drew)
      have HT4 := Lib.hid (show SB w3.drew w2.heap.size (.slice (some ⟨F, 0, none⟩) (fs.length + 1 + 1) c2) (.slice PA np pc) (pushS s (mkO f) (serO s f)) from HT.out)
      clear HT HB23 t0 y4
      generalize w3.drew = w4 at *
      have q5 := (HB24.out.cell (p := ⟨F, fs.length * 5 + 4, none⟩) hFz).trans q4
      have q5z := (HB24.out.frozen (p := ⟨F, fs.length * 5 + 4, none⟩) hFz).trans q4z
      go_upto_region 12 with (fail)
      have HNX := Lib.hid (show w.heap.size ≠ F ∧ w.heap.size + 1 ≠ F ∧ w.heap.size + 2 ≠ F ∧ w2.heap.size ≠ F from by have := HF2.out; exact ⟨by omega, by omega, by omega, by omega⟩)
      have HX5 := Lib.hid (SB.to HX2.out ((sc_keep (w := w4) (g := F) (j := fs.length * 5 + 4) (v := .slice (some ⟨bd, offd, none⟩) k dc) HNX.out.1).trans (HB24.out.block _ HX2.out.lt)))
      have HR5 := Lib.hid (SB.to HR2.out ((sc_keep (w := w4) (g := F) (j := fs.length * 5 + 4) (v := .slice (some ⟨bd, offd, none⟩) k dc) HNX.out.2.1).trans (HB24.out.block _ HR2.out.lt)))
      have HY5 := Lib.hid ((sc_keep (w := w4) (g := F) (j := fs.length * 5 + 4) (v := .slice (some ⟨bd, offd, none⟩) k dc) HNX.out.2.2.1).trans ((HB24.out.block _ hyz).trans HY2.out))
      have HT5 := Lib.hid (SB.to HT4.out (sc_keep (w := w4) (g := F) (j := fs.length * 5 + 4) (v := .slice (some ⟨bd, offd, none⟩) k dc) HNX.out.2.2.2))
      have HB5 := Lib.hid ((HB2.out.trans (HB24.out.mono HB2.out.size)).setCell (p := ⟨F, fs.length * 5 + 4, none⟩) (by show w.heap.size ≤ F; have := HF2.out; omega) (.slice (some ⟨bd, offd, none⟩) k dc))
      have HO5 := Lib.hid (((own_below HOW.out HB24.out).stored (fs.length * 5 + 4) (.slice (some ⟨bd, offd, none⟩) k dc)).1)
      have cx5 := (HB5.out.cell (p := ⟨bd, offd + k, none⟩) hbd).trans hcx
      clear HX2 HR2 HY2 HT4 HB24 HB2 HOW q4 q4z q5 q5z hx2z y4 hyz hcx
      generalize w4.setCell ⟨F, fs.length * 5 + 4, none⟩ (.slice (some ⟨bd, offd, none⟩) k dc) = w5 at *
      have t0 := HT5.out.c0
      have t1 := HT5.out.c1
      have t2 := HT5.out.c2
      have t3 := HT5.out.c3
      have t4 := HT5.out.c4
      have t5 := HT5.out.c5
      have x2 := HX5.out.c2
      have r0 := HR5.out.c0
      have r1 := HR5.out.c1
      have r2 := HR5.out.c2
      have r3 := HR5.out.c3
      have r4 := HR5.out.c4
      have r5 := HR5.out.c5
      have v0 := HR5.out.z 0
      have v1 := HR5.out.z 1
      have v2 := HR5.out.z 2
      have v3 := HR5.out.z 3
      have v4 := HR5.out.z 4
      have v5 := HR5.out.z 5
      have y4 : w5.cell? ⟨w.heap.size + 1 + 1, 4, none⟩ = some (.slice (some ⟨bd, offd, none⟩) (k + 1) dc) := by rw [Lib.cell_of_heap HY5.out]; rfl
      have zt := HT5.out.lt
      have zx := HX5.out.lt
      have zr := HR5.out.lt
      have zy : w.heap.size + 1 + 1 < w5.heap.size := (Array.getElem?_eq_some_iff.1 HY5.out).1
      have zb : bd < w5.heap.size := by omega
      have hk1 : (k : Int) < (k : Int) + 1 := by omega
      have hn1 : w2.heap.size ≠ w.heap.size + 1 := by have := HF2.out; omega
      have hn1' : w.heap.size + 1 ≠ w2.heap.size := fun e => hn1 e.symm
      have hn2 : w.heap.size ≠ w.heap.size + 1 := by omega
      have hn2' : w.heap.size + 1 ≠ w.heap.size := by omega
      have hn3 : w.heap.size + 1 + 1 ≠ w.heap.size + 1 := by omega
      have hn3' : w.heap.size + 1 ≠ w.heap.size + 1 + 1 := by omega
      have hn4 : bd ≠ w.heap.size + 1 := by omega
      have hn4' : w.heap.size + 1 ≠ bd := by omega
      refine (show ?G → _ from fun hk => ?main) ?later
      case main =>
        go_region_held3 (fun w' => w'.cell? ⟨w2.heap.size, 0, none⟩ = some (.slice (some ⟨F, 0, none⟩) (fs.length + 1 + 1) c2) ∧ w'.cell? ⟨w2.heap.size, 1, none⟩ = some (.slice PA np pc) ∧ w'.cell? ⟨w2.heap.size, 2, none⟩ = some (.int .i64 ((pushS s (mkO f) (serO s f)).next : Int)) ∧ w'.cell? ⟨w2.heap.size, 3, none⟩ = some (.int .i64 ((pushS s (mkO f) (serO s f)).ser : Int)) ∧ w'.cell? ⟨w2.heap.size, 4, none⟩ = some (.int .i64 (pushS s (mkO f) (serO s f)).en) ∧ w'.cell? ⟨w2.heap.size, 5, none⟩ = some (.int .i64 (pushS s (mkO f) (serO s f)).st) ∧ w'.cell? ⟨w.heap.size, 2, none⟩ = some (.int .i64 (s.next : Int)) ∧ w'.cell? ⟨w.heap.size + 1 + 1, 4, none⟩ = some (.slice (some ⟨bd, offd, none⟩) (k + 1) dc) ∧ w'.cell? ⟨bd, offd + k, none⟩ = some (.int .i64 x)) (go_keep) (fail)
        all_goals exact hk
      clear hn1 hn1' hn2 hn2' hn3 hn3' hn4 hn4'
      obtain ⟨w7, hw7, b7, k7, l7, s7⟩ := six_at (w := w5) (g := w.heap.size + 1) (.slice (some ⟨F, 0, none⟩) (fs.length + 1 + 1) c2) (.slice PA np pc) (.int .i64 ((pushS s (mkO f) (serO s f)).next : Int)) (.int .i64 ((pushS s (mkO f) (serO s f)).ser : Int)) (.int .i64 (pushS s (mkO f) (serO s f)).en) (.int .i64 (pushS s (mkO f) (serO s f)).st) HR5.out
      rw [← hw7]
      have HBW := Lib.hid (l7 w.heap.size (Nat.le_succ _) w HB5.out)
      have HB7 := Lib.hid ((HBW.out.alloc (by have := HBW.out.size; omega) (.cells #[.int .i64 2, .int .i64 x, .int .i64 (s.next : Int), .int .i64 0, .int .i64 0, .string ⟨#[]⟩, .slice none 0 0] 96)).drew)
      have HO7 := Lib.hid (own_below (w' := (w7.alloc (.cells #[.int .i64 2, .int .i64 x, .int .i64 (s.next : Int), .int .i64 0, .int .i64 0, .string ⟨#[]⟩, .slice none 0 0] 96)).drew) (own_stay (w' := w7) HO5.out fun b hb => k7 b (fun e => by have h1 := HF2.out; injection hb with hb; have h2 : F = b := hb; omega)) ((al _).drew))
      have HR7 := Lib.hid (show SB (w7.alloc (.cells #[.int .i64 2, .int .i64 x, .int .i64 (s.next : Int), .int .i64 0, .int .i64 0, .string ⟨#[]⟩, .slice none 0 0] 96)).drew (w.heap.size + 1) (.slice (some ⟨F, 0, none⟩) (fs.length + 1 + 1) c2) (.slice PA np pc) (pushS s (mkO f) (serO s f)) from (Lib.alloc_old _ _ _ (by omega)).trans b7)
      have HT7 := Lib.hid (show TLm (w7.alloc (.cells #[.int .i64 2, .int .i64 x, .int .i64 (s.next : Int), .int .i64 0, .int .i64 0, .string ⟨#[]⟩, .slice none 0 0] 96)).drew (fun b => w.heap.size ≤ b ∧ b < (w7.alloc (.cells #[.int .i64 2, .int .i64 x, .int .i64 (s.next : Int), .int .i64 0, .int .i64 0, .string ⟨#[]⟩, .slice none 0 0] 96)).drew.heap.size) (.slice (some ⟨w7.heap.size, 0, none⟩) 1 1) [tl3 2 x s.next] from tl_oneM (heap_alloc_new w7 _) ⟨HBW.out.size, by simp⟩)
      have HS7 := Lib.hid (STm.start (base := wa.heap.size) (mk := mkO f) (ser := serO s f) (c2 := c2) HSM.out HMM.out HB7.out HF.out HXS.out HXL.out HFM.out HES.out (by have := HZA.out; omega) (by
        have e := HO7.out
        rw [show fs.length + 1 = s.fr.length from by rw [HF.out]; simp] at e
        exact e))
      have HZ := Lib.hid (show f.ds.dropLast = xs ∧ f.ds.getLastD 0 = x by rw [HXS.out]; simp)
      rw [HZ.out.1, HZ.out.2] at HST
      clear hw7 k7 l7 b7 t0 t1 t2 t3 t4 t5 x2 r0 r1 r2 r3 r4 r5 v0 v1 v2 v3 v4 v5 y4 zt zx zr zy zb cx5
      have hz7 : w7.heap.size = w5.heap.size := s7
      clear s7
      have HZ7 := Lib.hid hz7
      clear hz7
      generalize (w7.alloc (.cells #[.int .i64 2, .int .i64 x, .int .i64 (s.next : Int), .int .i64 0, .int .i64 0, .string ⟨#[]⟩, .slice none 0 0] 96)).drew = w8 at *
      have r0 := HR7.out.c0
      have r1 := HR7.out.c1
      have r2 := HR7.out.c2
      have r3 := HR7.out.c3
      have r4 := HR7.out.c4
      have r5 := HR7.out.c5
      rw [HZ7.out] at HT7
      go_wp2_with fail
      refine bodyPost_ret (v := .tuple #[stV (.slice (some ⟨F, 0, none⟩) (fs.length + 1 + 1) c2) (.slice PA np pc) (pushS s (mkO f) (serO s f)), .slice (some ⟨w5.heap.size, 0, none⟩) 1 1]) (by simp [results, Try.results50, go_sem, r0, r1, r2, r3, r4, r5]) rfl ?_
      refine ⟨_, _, _, _, _, .done HF.out HST.out, rfl, ?_, HT7.out, HB7.out⟩
      have := HS7.out
      rw [HF.out] at this
      simpa using this
end
end Go.Proofs.Ytapofohbngkekaa
