/- The document's StepState. Conditions: the state is one that is come to. -/
import Derived.Test.YtapofohbngkekaaPoS
set_option maxRecDepth 100000
namespace Go.Proofs.Ytapofohbngkekaa
open Go.ChangeShapes Go.WideShapes Go.ChangeAt Go.RowKit
section
variable (FA PA : Option Addr) (nf fc np pc k : Nat) (s : ST) (v : EV) (A : Option Addr) (len cap : Nat) (w : World) (hs : STr w w.heap.size (.slice FA nf fc) (.slice PA np pc) s) (hi : Inv k s) (hk : k ≤ 50000) (he : s.en = 0)
include hs hi hk he
set_option maxHeartbeats 16000000 in
theorem step_ret (h1 : v.kind = 2) : Calls Try.prog 22 #[stV (.slice FA nf fc) (.slice PA np pc) s, evA v A len cap] w (SpP s v w) := by
  obtain ⟨ek, en, vk, vn, vs⟩ := v
  simp only at h1
  subst h1
  have hlv := hi.2 he
  obtain ⟨fs, f, hf, hph⟩ := hlv.top
  obtain ⟨⟨FA', fc', dso, e1, _, _, _⟩, ⟨PA', pc', e2, _, _, _⟩⟩ := id hs
  injection e1 with e1 e3 e4
  injection e2 with e2 e5 e6
  subst e1 e3 e4 e2 e5 e6
  have hfl : s.fr.length = fs.length + 1 := by rw [hf]; simp
  have hf30 : fs.length + 1 ≤ 30 := by rw [← hfl]; exact hi.1.fr
  have hp2 := hi.1.pn
  have HOK := Lib.hid (show ∀ p ∈ s.pn, PnOk p from hi.1.ok)
  obtain ⟨np, hnp⟩ : ∃ n, s.pn.length = n := ⟨_, rfl⟩
  rw [hfl] at hs ⊢
  rw [hnp] at hp2 hs ⊢
  have HS := Lib.hid hs
  have HIN := Lib.hid hi
  have HF := Lib.hid hf
  have HNP := Lib.hid hnp
  have HLV := Lib.hid hlv
  have HPH := Lib.hid hph
  have H0 := Lib.hid he
  have b1 : (s.en != 0) = false := by rw [he]; rfl
  have b2 : (((fs.length : Int) + 1) == 0) = false := by rw [beq_eq_false_iff_ne]; omega
  clear hs hi hnp hlv he hf hph hfl
  go_enter Try.func22, Try.ntmps22
  go_upto_region 3 with (fail)
  have HW := Lib.hid (boxesE w FA PA (fs.length + 1) fc np pc s ⟨2, en, vk, vn, vs⟩ A len cap)
  simp only [evC] at HW
  generalize ((w.alloc (.cells #[.slice FA (fs.length + 1) fc, .slice PA np pc, .int .i64 (s.next : Int), .int .i64 (s.ser : Int), .int .i64 s.en, .int .i64 s.st] 56)).alloc (.cells #[.int .i64 2, .int .i64 en, .int .i64 vk, .int .i64 vn, .string vs, .slice A len cap] 51)).alloc (.cells #[.slice none 0 0, .slice none 0 0, .int .i64 0, .int .i64 0, .int .i64 0, .int .i64 0] 56) = wa at *
  have HX := Lib.hid HW.out.1
  have HE := Lib.hid HW.out.2.1
  have HR := Lib.hid HW.out.2.2.1
  have HBA := Lib.hid HW.out.2.2.2.1
  have HZA := Lib.hid HW.out.2.2.2.2
  clear HW
  have x0 := HX.out.c0
  have x1 := HX.out.c1
  have x2 := HX.out.c2
  have x3 := HX.out.c3
  have x4 := HX.out.c4
  have x5 := HX.out.c5
  go_wp2_with fail
  refine Calls.mono (copyState_any FA PA (fs.length + 1) fc np pc s wa ((HS.out.into HBA.out).more (by have := HZA.out; omega)) HOK.out (by omega) (by omega) (fun g hg => by have := (HIN.out.1.ds g hg).1; omega)) ?_
  rintro e w1 ⟨fv, pv, ds, rfl, hfo, hpo, hb1⟩
  obtain ⟨PB, pc1, rfl⟩ := own_form hpo
  have HX1 := Lib.hid (SB.to HX.out (hb1.block _ HX.out.lt))
  have HE1 := Lib.hid ((hb1.block (w.heap.size + 1) (by have := HZA.out; omega)).trans HE.out)
  have HR1 := Lib.hid (SB.to HR.out (hb1.block _ HR.out.lt))
  have HB1 := Lib.hid (sq HBA.out hb1)
  have HZ1 := Lib.hid (show w.heap.size + 3 ≤ w1.heap.size by have := hb1.size; have := HZA.out; omega)
  rw [HZA.out] at hfo hpo
  rw [HNP.out] at hpo
  rw [HF.out] at hfo
  obtain ⟨F, fc1, es, d, rfl, hel, rfl, hF, hFz, hfc1, hfc2, ht⟩ := hfo.top
  have hdr := hfo.dr fs.length f d (by simp) (by rw [← hel]; simp)
  obtain ⟨m, hm⟩ : ∃ m, f.ds.length = m := ⟨_, rfl⟩
  have hm2 : m ≤ 50000 := by have := (HIN.out.1.ds f (by rw [HF.out]; simp)).1; omega
  rw [hm] at hdr
  obtain ⟨DA, dc, rfl⟩ := own_form hdr
  have HM := Lib.hid hm
  have HEL := Lib.hid hel
  have HFO := Lib.hid hfo
  have HPO := Lib.hid hpo
  rw [HNP.out]
  clear hb1 hfo hpo HX HR HE HBA HZA x0 x1 x2 x3 x4 x5 ht hdr hm hel hF hFz
  have x0 := HX1.out.c0
  have x1 := HX1.out.c1
  have x2 := HX1.out.c2
  have x3 := HX1.out.c3
  have x4 := HX1.out.c4
  have x5 := HX1.out.c5
  have z0 := HX1.out.z 0
  have z1 := HX1.out.z 1
  have z2 := HX1.out.z 2
  have z3 := HX1.out.z 3
  have z4 := HX1.out.z 4
  have z5 := HX1.out.z 5
  go_upto_region 4 with (fail)
  obtain ⟨w2, hw2, bx2, k2, l2, s2⟩ := six_at (w := w1) (g := w.heap.size) (.slice (some ⟨F, 0, none⟩) (fs.length + 1) fc1) (.slice PB np pc1) (.int .i64 (s.next : Int)) (.int .i64 (s.ser : Int)) (.int .i64 s.en) (.int .i64 s.st) HX1.out
  rw [← hw2]
  have HX2 := Lib.hid (show SB w2 w.heap.size (.slice (some ⟨F, 0, none⟩) (fs.length + 1) fc1) (.slice PB np pc1) s from bx2)
  have HE2 := Lib.hid ((k2 (w.heap.size + 1) (by omega)).trans HE1.out)
  have HR2 := Lib.hid (SB.to HR1.out (k2 _ (by omega)))
  have HB2 := Lib.hid (l2 w.heap.size (Nat.le_refl _) w HB1.out)
  have HZ2 := Lib.hid (show w.heap.size + 3 ≤ w2.heap.size by rw [s2]; exact HZ1.out)
  have HF2 := Lib.hid (show FrO w2 (w.heap.size + 3) (.slice (some ⟨F, 0, none⟩) (fs.length + 1) fc1) (fs ++ [f]) (es ++ [.slice DA m dc]) from HFO.out.stay fun b cs t hb ht => k2 b (fun e => by
    rw [e, HX1.out] at hb
    injection hb with hb
    injection hb with _ hb
    subst hb
    rcases ht with ht | ht <;> exact absurd ht (by decide)))
  have HP2 := Lib.hid (own_stay (w' := w2) HPO.out fun b hb => k2 b (fun e => by have := (HPO.out.lt b hb).1; omega))
  clear hw2 bx2 k2 l2 s2 HX1 HE1 HR1 HB1 HZ1 HFO HPO
  clear x0 x1 x2 x3 x4 x5
  clear z0 z1 z2 z3 z4 z5
  have ht9 := HF2.out.top
  obtain ⟨F9, c9, es9, d9, e9, hel9, e8, hF, hFz, _, _, ht⟩ := ht9
  injection e8 with e8 e8n e7
  injection e8 with e8
  injection e8 with e8 e8o e8p
  clear e8n e8o e8p
  subst e8 e7
  obtain ⟨e6, rfl⟩ := snoc_inj e9
  clear e9 hel9 e6
  have t0 := ht.c0
  have t1 := ht.c1
  have t2 := ht.c2
  have t3 := ht.c3
  have t4 := ht.c4
  clear ht
  have x0 := HX2.out.c0
  have hwf : IntKind.i64.wrap (fs.length : Int) = (fs.length : Int) := IntWalk.i64_in _ (by omega)
  have hF1 : (fs.length : Int) < (fs.length : Int) + 1 := by omega
  have e0 : w2.cell? ⟨w.heap.size + 1, 0, none⟩ = some (.int .i64 2) := by rw [Lib.cell_of_heap HE2.out]; rfl
  have ez : w.heap.size + 1 < w2.heap.size := by have := HZ2.out; omega
  have hxz := HX2.out.lt
  go_upto_region 5 with (fail)
  have HX3 := Lib.hid (SB.to HX2.out (Lib.alloc_old w2 (.cells #[.int .i64 f.id, .int .i64 f.mark, .int .i64 f.pan, .int .i64 f.ph, .slice DA m dc] 93) _ HX2.out.lt))
  have HE3 := Lib.hid ((Lib.alloc_old w2 (.cells #[.int .i64 f.id, .int .i64 f.mark, .int .i64 f.pan, .int .i64 f.ph, .slice DA m dc] 93) (w.heap.size + 1) ez).trans HE2.out)
  have HR3 := Lib.hid (SB.to HR2.out (Lib.alloc_old w2 (.cells #[.int .i64 f.id, .int .i64 f.mark, .int .i64 f.pan, .int .i64 f.ph, .slice DA m dc] 93) _ HR2.out.lt))
  have HB3 := Lib.hid (HB2.out.alloc (by have := HZ2.out; omega) (.cells #[.int .i64 f.id, .int .i64 f.mark, .int .i64 f.pan, .int .i64 f.ph, .slice DA m dc] 93))
  have HY3 := Lib.hid (show (w2.alloc (.cells #[.int .i64 f.id, .int .i64 f.mark, .int .i64 f.pan, .int .i64 f.ph, .slice DA m dc] 93)).heap[w2.heap.size]? = some (.cells #[.int .i64 f.id, .int .i64 f.mark, .int .i64 f.pan, .int .i64 f.ph, .slice DA m dc] 93 (0, 0)) from heap_alloc_new w2 _)
  have HF3 := Lib.hid (show FrO (w2.alloc (.cells #[.int .i64 f.id, .int .i64 f.mark, .int .i64 f.pan, .int .i64 f.ph, .slice DA m dc] 93)) (w.heap.size + 3) (.slice (some ⟨F, 0, none⟩) (fs.length + 1) fc1) (fs ++ [f]) (es ++ [.slice DA m dc]) from HF2.out.stay fun b cs t hb _ => Lib.alloc_old _ _ _ (Array.getElem?_eq_some_iff.1 hb).1)
  have HP3 := Lib.hid (own_below HP2.out (al (w := w2) (.cells #[.int .i64 f.id, .int .i64 f.mark, .int .i64 f.pan, .int .i64 f.ph, .slice DA m dc] 93)))
  have HYL := Lib.hid (show w.heap.size + 3 ≤ w2.heap.size ∧ w2.heap.size < (w2.alloc (.cells #[.int .i64 f.id, .int .i64 f.mark, .int .i64 f.pan, .int .i64 f.ph, .slice DA m dc] 93)).heap.size ∧ F < w2.heap.size ∧ w.heap.size + 3 ≤ F ∧ (∀ b, (Value.slice DA m dc).ownBlock = some b → b < w2.heap.size) ∧ (∀ b, (Value.slice PB np pc1).ownBlock = some b → b < w2.heap.size) from ⟨HZ2.out, by simp, hFz, hF, fun b hb => ((HF2.out.dr fs.length f (.slice DA m dc) (by simp) (by rw [← HEL.out]; simp)).lt b hb).2, fun b hb => (HP2.out.lt b hb).2⟩)
  clear x0 t0 t1 t2 t3 t4 e0 ez hxz HX2 HE2 HR2 HB2 HZ2 HF2 HP2 hF hFz
  generalize w2.alloc (.cells #[.int .i64 f.id, .int .i64 f.mark, .int .i64 f.pan, .int .i64 f.ph, .slice DA m dc] 93) = w3 at *
  generalize w2.heap.size = Y at *
  have HS3 := Lib.hid (show STm w3 (fun b => w.heap.size + 3 ≤ b ∧ b < w3.heap.size) (.slice (some ⟨F, 0, none⟩) (fs.length + 1) fc1) (.slice PB np pc1) s from by
    have h1 : FrO w3 (w.heap.size + 3) (.slice (some ⟨F, 0, none⟩) (fs.length + 1) fc1) s.fr (es ++ [.slice DA m dc]) := by rw [HF.out]; exact HF3.out
    exact STm.of h1 (by rw [HNP.out]; exact HP3.out))
  have HNF := Lib.hid (show fs.length + 1 = s.fr.length by rw [HF.out]; simp)
  have HNE := Lib.hid (show ¬ s.fr.length = 0 by rw [← HNF.out]; omega)
  have HDS := Lib.hid (show ∀ g ∈ s.fr, g.ds.length ≤ 100000 from fun g hg => by have := (HIN.out.1.ds g hg).1; omega)
  have e0 : w3.cell? ⟨w.heap.size + 1, 0, none⟩ = some (.int .i64 2) := by rw [Lib.cell_of_heap HE3.out]; rfl
  have e1 : w3.cell? ⟨w.heap.size + 1, 1, none⟩ = some (.int .i64 en) := by rw [Lib.cell_of_heap HE3.out]; rfl
  have ez : w.heap.size + 1 < w3.heap.size := by have := HYL.out; omega
  have x0 := HX3.out.c0
  have x1 := HX3.out.c1
  have x2 := HX3.out.c2
  have x3 := HX3.out.c3
  have x4 := HX3.out.c4
  have x5 := HX3.out.c5
  have HEV := Lib.hid (show evV s fs f ⟨2, en, vk, vn, vs⟩ = .go (stFr s (fs ++ [phF f 1])) [] from by unfold evV; rw [if_neg (show ¬ (2 : Int) = 1 by decide), if_pos rfl])
  have HKE := Lib.hid ((ev_keeps HIN.out.1 HLV.out HF.out).2 _ _ HEV.out)
  go_wp2_with fail
  refine Calls.mono (phased_any (some ⟨F, 0, none⟩) PB (fs.length + 1) fc1 np pc1 s 1 w3 (HS3.out.r fun b hb => hb.2) HNE.out HOK.out (by omega) (by omega) HDS.out) ?_
  rintro e w4 ⟨fv, pv, ds4, he, hfo, hpo, hb4⟩
  have hse : setPh s.fr 1 = fs ++ [phF f 1] := by rw [HF.out, setPh_snoc]
  rw [hse] at he hfo
  subst he
  obtain ⟨FC, fc4, rfl⟩ := own_form hfo.row
  obtain ⟨PC, pc4, rfl⟩ := own_form hpo
  have hl1 : (fs ++ [phF f 1]).length = fs.length + 1 := by simp
  have hl2 : (s.pn).length = np := HNP.out
  rw [hl1]
  rw [hl2]
  have HS4 := Lib.hid (show STm w4 (fun b => w3.heap.size ≤ b ∧ b < w4.heap.size) (.slice FC (fs.length + 1) fc4) (.slice PC (np) pc4) (stFr s (fs ++ [phF f 1])) from by
    have h9 := STm.of (s := stFr s (fs ++ [phF f 1])) hfo hpo
    rw [hl1, hl2] at h9
    exact h9)
  have HL4 := Lib.hid (show (stFr s (fs ++ [phF f 1])).fr.length = fs.length + 1 from hl1)
  clear hl1 hl2
  have HX4 := Lib.hid (SB.to HX3.out (hb4.block _ HX3.out.lt))
  have HR4 := Lib.hid (SB.to HR3.out (hb4.block _ HR3.out.lt))
  have HB4 := Lib.hid (HB3.out.trans (hb4.mono HB3.out.size))
  have HZ4 := Lib.hid (show w.heap.size + 3 ≤ w3.heap.size ∧ w3.heap.size ≤ w4.heap.size from ⟨by have := HYL.out; omega, hb4.size⟩)
  clear hfo hpo hb4 hse x0 x1 x2 x3 x4 x5 e0 e1 ez
  go_wp2_with fail
  refine Calls.mono (goOn_any (k + 1) (k + 1) (by omega) (by omega) (fs.length + 1) FC PC (fs.length + 1) fc4 (np) pc4 (stFr s (fs ++ [phF f 1])) (fun b => w3.heap.size ≤ b ∧ b < w4.heap.size) w4 HL4.out HKE.out.1 HKE.out.2.1 HS4.out (fun b hb => hb.2)) ?_
  rintro e w5 ⟨r, ts, fv, pv, tv, hgo, rfl, hS5, hT5, hb5⟩
  obtain ⟨A5, c5, ds5, e5, h5⟩ := hS5.fr
  obtain ⟨A6, c6, e6, h6⟩ := hS5.pn
  obtain ⟨A7, c7, e7, h7⟩ := hT5
  subst e5 e6 e7
  have HGO := Lib.hid (EvR.go HF.out HEV.out hgo)
  have HT5 := Lib.hid (show TLm w5 (fun b => w.heap.size + 3 ≤ b ∧ b < w5.heap.size) (.slice A7 ts.length c7) ts from TLm.more ⟨_, _, rfl, h7⟩ fun b hb => by have := HZ4.out; omega)
  have HS5 := Lib.hid (hS5.more (M' := fun b => w.heap.size + 3 ≤ b ∧ b < w5.heap.size) fun b hb => by have := HZ4.out; have := hb5.size; omega)
  have HR5 := Lib.hid (SB.to HR4.out (hb5.block _ HR4.out.lt))
  have HB5 := Lib.hid (HB4.out.trans (hb5.mono HB4.out.size))
  clear hgo hS5 hb5 h5 h6 h7
  go_upto_region 14 with (fail)
  have HG6 := Lib.hid (show SB (w5.alloc (.cells #[.slice A5 r.fr.length c5, .slice A6 r.pn.length c6, .int .i64 ((r).next : Int), .int .i64 ((r).ser : Int), .int .i64 (r).en, .int .i64 (r).st] 56)) w5.heap.size (.slice A5 r.fr.length c5) (.slice A6 r.pn.length c6) (r) from heap_alloc_new w5 _)
  have HR6 := Lib.hid (SB.to HR5.out (Lib.alloc_old w5 (.cells #[.slice A5 r.fr.length c5, .slice A6 r.pn.length c6, .int .i64 ((r).next : Int), .int .i64 ((r).ser : Int), .int .i64 (r).en, .int .i64 (r).st] 56) _ HR5.out.lt))
  have HB6 := Lib.hid (HB5.out.alloc HB5.out.size (.cells #[.slice A5 r.fr.length c5, .slice A6 r.pn.length c6, .int .i64 ((r).next : Int), .int .i64 ((r).ser : Int), .int .i64 (r).en, .int .i64 (r).st] 56))
  have HS6 := Lib.hid ((HS5.out.keep fun p hp => (al (w := w5) (.cells #[.slice A5 r.fr.length c5, .slice A6 r.pn.length c6, .int .i64 ((r).next : Int), .int .i64 ((r).ser : Int), .int .i64 (r).en, .int .i64 (r).st] 56)).cell hp.2).more (M' := fun b => w.heap.size + 3 ≤ b ∧ b < (w5.alloc (.cells #[.slice A5 r.fr.length c5, .slice A6 r.pn.length c6, .int .i64 ((r).next : Int), .int .i64 ((r).ser : Int), .int .i64 (r).en, .int .i64 (r).st] 56)).heap.size) fun b hb => by simp; omega)
  have HO6 := Lib.hid (show STm (w5.alloc (.cells #[.slice A5 r.fr.length c5, .slice A6 r.pn.length c6, .int .i64 ((r).next : Int), .int .i64 ((r).ser : Int), .int .i64 (r).en, .int .i64 (r).st] 56)) (fun b => w.heap.size + 3 ≤ b ∧ b < (w5.alloc (.cells #[.slice A5 r.fr.length c5, .slice A6 r.pn.length c6, .int .i64 ((r).next : Int), .int .i64 ((r).ser : Int), .int .i64 (r).en, .int .i64 (r).st] 56)).heap.size) (.slice A5 r.fr.length c5) (.slice A6 r.pn.length c6) (r) from ⟨HS6.out.1, HS6.out.2⟩)
  have HT6 := Lib.hid ((HT5.out.keep fun p hp => (al (w := w5) (.cells #[.slice A5 r.fr.length c5, .slice A6 r.pn.length c6, .int .i64 ((r).next : Int), .int .i64 ((r).ser : Int), .int .i64 (r).en, .int .i64 (r).st] 56)).cell hp.2).more (M' := fun b => w.heap.size + 3 ≤ b ∧ b < (w5.alloc (.cells #[.slice A5 r.fr.length c5, .slice A6 r.pn.length c6, .int .i64 ((r).next : Int), .int .i64 ((r).ser : Int), .int .i64 (r).en, .int .i64 (r).st] 56)).heap.size) fun b hb => by simp; omega)
  clear HS6
  generalize w5.alloc (.cells #[.slice A5 r.fr.length c5, .slice A6 r.pn.length c6, .int .i64 ((r).next : Int), .int .i64 ((r).ser : Int), .int .i64 (r).en, .int .i64 (r).st] 56) = w6 at *
  have x0 := HG6.out.c0
  have x1 := HG6.out.c1
  have x2 := HG6.out.c2
  have x3 := HG6.out.c3
  have x4 := HG6.out.c4
  have x5 := HG6.out.c5
  have gz6 := HG6.out.lt
  have rz6 := HR6.out.lt
  have r0 := HR6.out.c0
  have r1 := HR6.out.c1
  have r2 := HR6.out.c2
  have r3 := HR6.out.c3
  have r4 := HR6.out.c4
  have r5 := HR6.out.c5
  have y0 := HR6.out.z 0
  have y1 := HR6.out.z 1
  have y2 := HR6.out.z 2
  have y3 := HR6.out.z 3
  have y4 := HR6.out.z 4
  have y5 := HR6.out.z 5
  go_wp2_with fail
  obtain ⟨w7, hw7, b7, k7, l7, s7⟩ := six_at (w := w6) (g := w.heap.size + 1 + 1) (.slice A5 r.fr.length c5) (.slice A6 r.pn.length c6) (.int .i64 ((r).next : Int)) (.int .i64 ((r).ser : Int)) (.int .i64 (r).en) (.int .i64 (r).st) HR6.out
  rw [← hw7]
  have HEND := Lib.hid (sp_end (s := s) (v := ⟨2, en, vk, vn, vs⟩) (tv := .slice A7 ts.length c7) HGO.out HO6.out HT6.out HB6.out k7 l7 s7)
  have hR7 : SB w7 (w.heap.size + 1 + 1) (.slice A5 r.fr.length c5) (.slice A6 r.pn.length c6) (r) := b7
  clear r0 r1 r2 r3 r4 r5 y0 y1 y2 y3 y4 y5 hw7 b7 k7 l7 s7
  have r0 := hR7.c0
  have r1 := hR7.c1
  have r2 := hR7.c2
  have r3 := hR7.c3
  have r4 := hR7.c4
  have r5 := hR7.c5
  clear hR7
  refine bodyPost_ret (v := .tuple #[stV (.slice A5 r.fr.length c5) (.slice A6 r.pn.length c6) (r), .slice A7 ts.length c7, .int .i64 0]) (by simp [results, Try.results22, go_sem, r0, r1, r2, r3, r4, r5]) rfl ?_
  exact HEND.out
end
end Go.Proofs.Ytapofohbngkekaa
