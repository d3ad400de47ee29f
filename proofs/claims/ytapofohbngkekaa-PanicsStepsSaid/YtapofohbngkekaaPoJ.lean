/- The document's StepState. Conditions: the state is one that is come to. -/
import Derived.Test.YtapofohbngkekaaPoS
set_option maxRecDepth 100000
namespace Go.Proofs.Ytapofohbngkekaa
open Go.ChangeShapes Go.WideShapes Go.ChangeAt Go.RowKit
section
variable (FA PA : Option Addr) (nf fc np pc k : Nat) (s : ST) (v : EV) (A : Option Addr) (len cap : Nat) (w : World) (hs : STr w w.heap.size (.slice FA nf fc) (.slice PA np pc) s) (hi : Inv k s) (hk : k ≤ 50000) (he : s.en = 0)
include hs hi hk he
set_option maxHeartbeats 16000000 in
theorem step_recover (h1 : v.kind = 5) : Calls Try.prog 22 #[stV (.slice FA nf fc) (.slice PA np pc) s, evA v A len cap] w (SpP s v w) := by
  obtain ⟨ek, en, vk, vn, vs⟩ := v
  simp only at h1
  subst h1
  have hlv := hi.2 he
  obtain ⟨fs, f, hf, hph⟩ := hlv.top
  obtain ⟨⟨FA', fc', dso, e1, _, _, _⟩, ⟨PA', pc', e2, _, _, _⟩⟩ := id hs
  injection e1 with e1 e3 e4
  injection e2 with e2 e5 e6
  subst e1 e3 e4 e2 e5 e6
  have hfl : s.fr.length = fs.length + 1 := by rw [hf]; simp
  have hf30 : fs.length + 1 ≤ 30 := by rw [← hfl]; exact hi.1.fr
  have hp2 := hi.1.pn
  have HOK := Lib.hid (show ∀ p ∈ s.pn, PnOk p from hi.1.ok)
  obtain ⟨np, hnp⟩ : ∃ n, s.pn.length = n := ⟨_, rfl⟩
  rw [hfl] at hs ⊢
  rw [hnp] at hp2 hs ⊢
  have HS := Lib.hid hs
  have HIN := Lib.hid hi
  have HF := Lib.hid hf
  have HNP := Lib.hid hnp
  have HLV := Lib.hid hlv
  have HPH := Lib.hid hph
  have H0 := Lib.hid he
  have b1 : (s.en != 0) = false := by rw [he]; rfl
  have b2 : (((fs.length : Int) + 1) == 0) = false := by rw [beq_eq_false_iff_ne]; omega
  clear hs hi hnp hlv he hf hph hfl
  go_enter Try.func22, Try.ntmps22
  go_upto_region 3 with (fail)
  have HW := Lib.hid (boxesE w FA PA (fs.length + 1) fc np pc s ⟨5, en, vk, vn, vs⟩ A len cap)
  simp only [evC] at HW
  generalize ((w.alloc (.cells #[.slice FA (fs.length + 1) fc, .slice PA np pc, .int .i64 (s.next : Int), .int .i64 (s.ser : Int), .int .i64 s.en, .int .i64 s.st] 56)).alloc (.cells #[.int .i64 5, .int .i64 en, .int .i64 vk, .int .i64 vn, .string vs, .slice A len cap] 51)).alloc (.cells #[.slice none 0 0, .slice none 0 0, .int .i64 0, .int .i64 0, .int .i64 0, .int .i64 0] 56) = wa at *
  have HX := Lib.hid HW.out.1
  have HE := Lib.hid HW.out.2.1
  have HR := Lib.hid HW.out.2.2.1
  have HBA := Lib.hid HW.out.2.2.2.1
  have HZA := Lib.hid HW.out.2.2.2.2
  clear HW
  have x0 := HX.out.c0
  have x1 := HX.out.c1
  have x2 := HX.out.c2
  have x3 := HX.out.c3
  have x4 := HX.out.c4
  have x5 := HX.out.c5
  go_wp2_with fail
  refine Calls.mono (copyState_any FA PA (fs.length + 1) fc np pc s wa ((HS.out.into HBA.out).more (by have := HZA.out; omega)) HOK.out (by omega) (by omega) (fun g hg => by have := (HIN.out.1.ds g hg).1; omega)) ?_
  rintro e w1 ⟨fv, pv, ds, rfl, hfo, hpo, hb1⟩
  obtain ⟨PB, pc1, rfl⟩ := own_form hpo
  have HX1 := Lib.hid (SB.to HX.out (hb1.block _ HX.out.lt))
  have HE1 := Lib.hid ((hb1.block (w.heap.size + 1) (by have := HZA.out; omega)).trans HE.out)
  have HR1 := Lib.hid (SB.to HR.out (hb1.block _ HR.out.lt))
  have HB1 := Lib.hid (sq HBA.out hb1)
  have HZ1 := Lib.hid (show w.heap.size + 3 ≤ w1.heap.size by have := hb1.size; have := HZA.out; omega)
  rw [HZA.out] at hfo hpo
  rw [HNP.out] at hpo
  rw [HF.out] at hfo
  obtain ⟨F, fc1, es, d, rfl, hel, rfl, hF, hFz, hfc1, hfc2, ht⟩ := hfo.top
  have hdr := hfo.dr fs.length f d (by simp) (by rw [← hel]; simp)
  obtain ⟨m, hm⟩ : ∃ m, f.ds.length = m := ⟨_, rfl⟩
  have hm2 : m ≤ 50000 := by have := (HIN.out.1.ds f (by rw [HF.out]; simp)).1; omega
  rw [hm] at hdr
  obtain ⟨DA, dc, rfl⟩ := own_form hdr
  have HM := Lib.hid hm
  have HEL := Lib.hid hel
  have HFO := Lib.hid hfo
  have HPO := Lib.hid hpo
  rw [HNP.out]
  clear hb1 hfo hpo HX HR HE HBA HZA x0 x1 x2 x3 x4 x5 ht hdr hm hel hF hFz
  have x0 := HX1.out.c0
  have x1 := HX1.out.c1
  have x2 := HX1.out.c2
  have x3 := HX1.out.c3
  have x4 := HX1.out.c4
  have x5 := HX1.out.c5
  have z0 := HX1.out.z 0
  have z1 := HX1.out.z 1
  have z2 := HX1.out.z 2
  have z3 := HX1.out.z 3
  have z4 := HX1.out.z 4
  have z5 := HX1.out.z 5
  go_upto_region 4 with (fail)
  obtain ⟨w2, hw2, bx2, k2, l2, s2⟩ := six_at (w := w1) (g := w.heap.size) (.slice (some ⟨F, 0, none⟩) (fs.length + 1) fc1) (.slice PB np pc1) (.int .i64 (s.next : Int)) (.int .i64 (s.ser : Int)) (.int .i64 s.en) (.int .i64 s.st) HX1.out
  rw [← hw2]
  have HX2 := Lib.hid (show SB w2 w.heap.size (.slice (some ⟨F, 0, none⟩) (fs.length + 1) fc1) (.slice PB np pc1) s from bx2)
  have HE2 := Lib.hid ((k2 (w.heap.size + 1) (by omega)).trans HE1.out)
  have HR2 := Lib.hid (SB.to HR1.out (k2 _ (by omega)))
  have HB2 := Lib.hid (l2 w.heap.size (Nat.le_refl _) w HB1.out)
  have HZ2 := Lib.hid (show w.heap.size + 3 ≤ w2.heap.size by rw [s2]; exact HZ1.out)
  have HF2 := Lib.hid (show FrO w2 (w.heap.size + 3) (.slice (some ⟨F, 0, none⟩) (fs.length + 1) fc1) (fs ++ [f]) (es ++ [.slice DA m dc]) from HFO.out.stay fun b cs t hb ht => k2 b (fun e => by
    rw [e, HX1.out] at hb
    injection hb with hb
    injection hb with _ hb
    subst hb
    rcases ht with ht | ht <;> exact absurd ht (by decide)))
  have HP2 := Lib.hid (own_stay (w' := w2) HPO.out fun b hb => k2 b (fun e => by have := (HPO.out.lt b hb).1; omega))
  clear hw2 bx2 k2 l2 s2 HX1 HE1 HR1 HB1 HZ1 HFO HPO
  clear x0 x1 x2 x3 x4 x5
  clear z0 z1 z2 z3 z4 z5
  have ht9 := HF2.out.top
  obtain ⟨F9, c9, es9, d9, e9, hel9, e8, hF, hFz, _, _, ht⟩ := ht9
  injection e8 with e8 e8n e7
  injection e8 with e8
  injection e8 with e8 e8o e8p
  clear e8n e8o e8p
  subst e8 e7
  obtain ⟨e6, rfl⟩ := snoc_inj e9
  clear e9 hel9 e6
  have t0 := ht.c0
  have t1 := ht.c1
  have t2 := ht.c2
  have t3 := ht.c3
  have t4 := ht.c4
  clear ht
  have x0 := HX2.out.c0
  have hwf : IntKind.i64.wrap (fs.length : Int) = (fs.length : Int) := IntWalk.i64_in _ (by omega)
  have hF1 : (fs.length : Int) < (fs.length : Int) + 1 := by omega
  have e0 : w2.cell? ⟨w.heap.size + 1, 0, none⟩ = some (.int .i64 5) := by rw [Lib.cell_of_heap HE2.out]; rfl
  have ez : w.heap.size + 1 < w2.heap.size := by have := HZ2.out; omega
  have hxz := HX2.out.lt
  go_upto_region 5 with (fail)
  have HX3 := Lib.hid (SB.to HX2.out (Lib.alloc_old w2 (.cells #[.int .i64 f.id, .int .i64 f.mark, .int .i64 f.pan, .int .i64 f.ph, .slice DA m dc] 93) _ HX2.out.lt))
  have HE3 := Lib.hid ((Lib.alloc_old w2 (.cells #[.int .i64 f.id, .int .i64 f.mark, .int .i64 f.pan, .int .i64 f.ph, .slice DA m dc] 93) (w.heap.size + 1) ez).trans HE2.out)
  have HR3 := Lib.hid (SB.to HR2.out (Lib.alloc_old w2 (.cells #[.int .i64 f.id, .int .i64 f.mark, .int .i64 f.pan, .int .i64 f.ph, .slice DA m dc] 93) _ HR2.out.lt))
  have HB3 := Lib.hid (HB2.out.alloc (by have := HZ2.out; omega) (.cells #[.int .i64 f.id, .int .i64 f.mark, .int .i64 f.pan, .int .i64 f.ph, .slice DA m dc] 93))
  have HY3 := Lib.hid (show (w2.alloc (.cells #[.int .i64 f.id, .int .i64 f.mark, .int .i64 f.pan, .int .i64 f.ph, .slice DA m dc] 93)).heap[w2.heap.size]? = some (.cells #[.int .i64 f.id, .int .i64 f.mark, .int .i64 f.pan, .int .i64 f.ph, .slice DA m dc] 93 (0, 0)) from heap_alloc_new w2 _)
  have HF3 := Lib.hid (show FrO (w2.alloc (.cells #[.int .i64 f.id, .int .i64 f.mark, .int .i64 f.pan, .int .i64 f.ph, .slice DA m dc] 93)) (w.heap.size + 3) (.slice (some ⟨F, 0, none⟩) (fs.length + 1) fc1) (fs ++ [f]) (es ++ [.slice DA m dc]) from HF2.out.stay fun b cs t hb _ => Lib.alloc_old _ _ _ (Array.getElem?_eq_some_iff.1 hb).1)
  have HP3 := Lib.hid (own_below HP2.out (al (w := w2) (.cells #[.int .i64 f.id, .int .i64 f.mark, .int .i64 f.pan, .int .i64 f.ph, .slice DA m dc] 93)))
  have HYL := Lib.hid (show w.heap.size + 3 ≤ w2.heap.size ∧ w2.heap.size < (w2.alloc (.cells #[.int .i64 f.id, .int .i64 f.mark, .int .i64 f.pan, .int .i64 f.ph, .slice DA m dc] 93)).heap.size ∧ F < w2.heap.size ∧ w.heap.size + 3 ≤ F ∧ (∀ b, (Value.slice DA m dc).ownBlock = some b → b < w2.heap.size) ∧ (∀ b, (Value.slice PB np pc1).ownBlock = some b → b < w2.heap.size) from ⟨HZ2.out, by simp, hFz, hF, fun b hb => ((HF2.out.dr fs.length f (.slice DA m dc) (by simp) (by rw [← HEL.out]; simp)).lt b hb).2, fun b hb => (HP2.out.lt b hb).2⟩)
  clear x0 t0 t1 t2 t3 t4 e0 ez hxz HX2 HE2 HR2 HB2 HZ2 HF2 HP2 hF hFz
  generalize w2.alloc (.cells #[.int .i64 f.id, .int .i64 f.mark, .int .i64 f.pan, .int .i64 f.ph, .slice DA m dc] 93) = w3 at *
  generalize w2.heap.size = Y at *
  have HS3 := Lib.hid (show STm w3 (fun b => w.heap.size + 3 ≤ b ∧ b < w3.heap.size) (.slice (some ⟨F, 0, none⟩) (fs.length + 1) fc1) (.slice PB np pc1) s from by
    have h1 : FrO w3 (w.heap.size + 3) (.slice (some ⟨F, 0, none⟩) (fs.length + 1) fc1) s.fr (es ++ [.slice DA m dc]) := by rw [HF.out]; exact HF3.out
    exact STm.of h1 (by rw [HNP.out]; exact HP3.out))
  have HNF := Lib.hid (show fs.length + 1 = s.fr.length by rw [HF.out]; simp)
  have e0 : w3.cell? ⟨w.heap.size + 1, 0, none⟩ = some (.int .i64 5) := by rw [Lib.cell_of_heap HE3.out]; rfl
  have e1 : w3.cell? ⟨w.heap.size + 1, 1, none⟩ = some (.int .i64 en) := by rw [Lib.cell_of_heap HE3.out]; rfl
  have ez : w.heap.size + 1 < w3.heap.size := by have := HYL.out; omega
  have y1 : w3.cell? ⟨Y, 1, none⟩ = some (.int .i64 f.mark) := by rw [Lib.cell_of_heap HY3.out]; rfl
  have y2 : w3.cell? ⟨Y, 2, none⟩ = some (.int .i64 f.pan) := by rw [Lib.cell_of_heap HY3.out]; rfl
  have y3 := HYL.out.2.1
  have x1 := HX3.out.c1
  by_cases hm : f.mark = 2
  · obtain ⟨q, p, hq, hps⟩ : ∃ q p, s.pn = q ++ [p] ∧ p.ser = f.pan := by
      have h2 := HLV.out.seg
      rw [HF.out, rsers_snoc, if_pos hm] at h2
      obtain ⟨p, hp, _, h3⟩ := h2.last
      exact ⟨_, p, getLast_snoc hp, h3⟩
    have hql : np = q.length + 1 := by rw [← HNP.out, hq]; simp
    subst hql
    obtain ⟨Q, c', e', hQ, hQz, hn1, hn2⟩ := own_formF HP3.out (by omega)
    injection e' with e1' e2' e3'
    subst e1' e3'
    clear e2'
    have hcl : ∀ j u, (pnC p)[j]? = some u → w3.cell? ⟨Q, q.length * 7 + j, none⟩ = some u := fun j u hu => by
      have hj : j < 7 := (List.getElem?_eq_some_iff.1 hu).1
      rw [HP3.out.cellAt _ (by omega), pnL_get (p := p) (by rw [hq]; simp) hj]
      exact hu
    have HCL := Lib.hid hcl
    have l0 : w3.cell? ⟨Q, q.length * 7, none⟩ = some (.int .i64 p.ser) := hcl 0 _ rfl
    have l5 : w3.cell? ⟨Q, q.length * 7 + 5, none⟩ = some (.bool p.rcv) := hcl 5 _ rfl
    have HQL := Lib.hid (And.intro hQ (And.intro hQz hn2))
    have b3 : (f.mark != 2) = false := by rw [hm]; rfl
    have b4 : (p.ser != f.pan) = false := by rw [hps]; simp
    have hq0 : ¬ (q.length : Int) < 0 := by omega
    have hq1 : (q.length : Int) < (q.length : Int) + 1 := by omega
    have hqw : IntKind.i64.wrap (q.length : Int) = (q.length : Int) := IntWalk.i64_in _ (by omega)
    have HQ := Lib.hid hq
    have HM2 := Lib.hid hm
    have HPS := Lib.hid hps
    have HGL := Lib.hid (show s.pn.getLast? = some p by rw [hq]; simp)
    clear hq hm hps hcl
    cases hr : p.rcv with
    | true =>
      rw [hr] at l5
      have HEV := Lib.hid (show EvR s ⟨5, en, vk, vn, vs⟩ (some (s, [tl3 6 0 0])) from .fin HF.out (by
        show recS s f = _
        unfold recS
        rw [HGL.out]
        show (if f.mark = 2 ∧ p.ser = f.pan ∧ p.rcv = false then _ else _) = _
        rw [if_neg (fun h => by rw [hr] at h; exact absurd h.2.2 (by decide))]))
      have HRC := Lib.hid hr
      clear hr
      go_wp2_with fail
      go_quiet (fail)
      have HX4 := Lib.hid (SB.to (W' := w3.drewN nq) HX3.out rfl)
      have HR4 := Lib.hid (SB.to (W' := w3.drewN nq) HR3.out rfl)
      have HB4 := Lib.hid (dr HB3.out nq)
      have HS4 := Lib.hid (show STm (w3.drewN nq) (fun b => w.heap.size + 3 ≤ b ∧ b < (w3.drewN nq).heap.size) (.slice (some ⟨F, 0, none⟩) (fs.length + 1) fc1) (.slice (some ⟨Q, 0, none⟩) (q.length + 1) pc1) s from HS3.out.keep (w' := w3.drewN nq) fun p hp => rfl)
      have HZ4 := Lib.hid (show w.heap.size + 3 ≤ (w3.drewN nq).heap.size from by have := HYL.out; show w.heap.size + 3 ≤ w3.heap.size; omega)
      clear l0 l5 x1 y1 y2 y3
      generalize w3.drewN nq = w4 at *
      have x0 := HX4.out.c0
      have x1 := HX4.out.c1
      have x2 := HX4.out.c2
      have x3 := HX4.out.c3
      have x4 := HX4.out.c4
      have x5 := HX4.out.c5
      have gz4 := HX4.out.lt
      have rz4 := HR4.out.lt
      go_upto_region 28 with (fail)
      go_step
      go_step
      go_step
      go_step
      go_step
      go_step
      go_step
      go_step
      go_step
      have HR5 := Lib.hid (SB.to HR4.out (Lib.alloc_old w4 (.cells #[.int .i64 6, .int .i64 0, .int .i64 0, .int .i64 0, .int .i64 0, .string ⟨#[]⟩, .slice none 0 0] 96) _ HR4.out.lt))
      have HB5 := Lib.hid (HB4.out.alloc HB4.out.size (.cells #[.int .i64 6, .int .i64 0, .int .i64 0, .int .i64 0, .int .i64 0, .string ⟨#[]⟩, .slice none 0 0] 96))
      have HS5 := Lib.hid ((HS4.out.keep fun p hp => (al (w := w4) (.cells #[.int .i64 6, .int .i64 0, .int .i64 0, .int .i64 0, .int .i64 0, .string ⟨#[]⟩, .slice none 0 0] 96)).cell hp.2).more (M' := fun b => w.heap.size + 3 ≤ b ∧ b < (w4.alloc (.cells #[.int .i64 6, .int .i64 0, .int .i64 0, .int .i64 0, .int .i64 0, .string ⟨#[]⟩, .slice none 0 0] 96)).heap.size) fun b hb => by simp; omega)
      have HT5 := Lib.hid (show TLm (w4.alloc (.cells #[.int .i64 6, .int .i64 0, .int .i64 0, .int .i64 0, .int .i64 0, .string ⟨#[]⟩, .slice none 0 0] 96)) (fun b => w.heap.size + 3 ≤ b ∧ b < (w4.alloc (.cells #[.int .i64 6, .int .i64 0, .int .i64 0, .int .i64 0, .int .i64 0, .string ⟨#[]⟩, .slice none 0 0] 96)).heap.size) (.slice (some ⟨w4.heap.size, 0, none⟩) 1 1) [tl3 6 0 0] from tl_oneM (t := tl3 6 0 0) (heap_alloc_new w4 _) ⟨HZ4.out, by simp⟩)
      clear x0 x1 x2 x3 x4 x5 gz4 rz4
      generalize w4.alloc (.cells #[.int .i64 6, .int .i64 0, .int .i64 0, .int .i64 0, .int .i64 0, .string ⟨#[]⟩, .slice none 0 0] 96) = w5 at *
      generalize w4.heap.size = g4 at *
      have r0 := HR5.out.c0
      have r1 := HR5.out.c1
      have r2 := HR5.out.c2
      have r3 := HR5.out.c3
      have r4 := HR5.out.c4
      have r5 := HR5.out.c5
      have y0 := HR5.out.z 0
      have y1 := HR5.out.z 1
      have y2 := HR5.out.z 2
      have y3 := HR5.out.z 3
      have y4 := HR5.out.z 4
      have y5 := HR5.out.z 5
      have rz5 := HR5.out.lt
      go_wp2_with fail
      obtain ⟨w7, hw7, b7, k7, l7, s7⟩ := six_at (w := w5) (g := w.heap.size + 1 + 1) (.slice (some ⟨F, 0, none⟩) (fs.length + 1) fc1) (.slice (some ⟨Q, 0, none⟩) (q.length + 1) pc1) (.int .i64 ((s).next : Int)) (.int .i64 ((s).ser : Int)) (.int .i64 (s).en) (.int .i64 (s).st) HR5.out
      rw [← hw7]
      have HEND := Lib.hid (sp_end (s := s) (v := ⟨5, en, vk, vn, vs⟩) (tv := .slice (some ⟨g4, 0, none⟩) 1 1) HEV.out HS5.out HT5.out HB5.out k7 l7 s7)
      have hR7 : SB w7 (w.heap.size + 1 + 1) (.slice (some ⟨F, 0, none⟩) (fs.length + 1) fc1) (.slice (some ⟨Q, 0, none⟩) (q.length + 1) pc1) (s) := b7
      clear r0 r1 r2 r3 r4 r5 y0 y1 y2 y3 y4 y5 hw7 b7 k7 l7 s7
      have r0 := hR7.c0
      have r1 := hR7.c1
      have r2 := hR7.c2
      have r3 := hR7.c3
      have r4 := hR7.c4
      have r5 := hR7.c5
      clear hR7
      refine bodyPost_ret (v := .tuple #[stV (.slice (some ⟨F, 0, none⟩) (fs.length + 1) fc1) (.slice (some ⟨Q, 0, none⟩) (q.length + 1) pc1) (s), .slice (some ⟨g4, 0, none⟩) 1 1, .int .i64 0]) (by simp [results, Try.results22, go_sem, r0, r1, r2, r3, r4, r5]) rfl ?_
      exact HEND.out
    | false =>
      rw [hr] at l5
      have HEV := Lib.hid (show EvR s ⟨5, en, vk, vn, vs⟩ (some (stPn s (q ++ [rcP p]), [⟨5, 0, 0, p.k, p.n, p.s⟩])) from .fin HF.out (by
        show recS s f = _
        unfold recS
        rw [HGL.out]
        show (if f.mark = 2 ∧ p.ser = f.pan ∧ p.rcv = false then _ else _) = _
        rw [if_pos ⟨HM2.out, HPS.out, hr⟩, HQ.out, List.dropLast_concat]))
      have HRC := Lib.hid hr
      clear hr
      go_wp2_with fail
      go_quiet (fail)
      have HX4 := Lib.hid (SB.to (W' := w3.drewN nq) HX3.out rfl)
      have HR4 := Lib.hid (SB.to (W' := w3.drewN nq) HR3.out rfl)
      have HB4 := Lib.hid (dr HB3.out nq)
      have HS4 := Lib.hid (show STm (w3.drewN nq) (fun b => w.heap.size + 3 ≤ b ∧ b < (w3.drewN nq).heap.size) (.slice (some ⟨F, 0, none⟩) (fs.length + 1) fc1) (.slice (some ⟨Q, 0, none⟩) (q.length + 1) pc1) s from HS3.out.keep (w' := w3.drewN nq) fun p hp => rfl)
      have HZ4 := Lib.hid (show w.heap.size + 3 ≤ (w3.drewN nq).heap.size from by have := HYL.out; show w.heap.size + 3 ≤ w3.heap.size; omega)
      have HP4 := Lib.hid (show (w3.drewN nq).ownsRow (w.heap.size + 3) 99 7 (.slice (some ⟨Q, 0, none⟩) (q.length + 1) pc1) (q.length + 1) (pnL s.pn) from HP3.out)
      have HF4 := Lib.hid (show FrO (w3.drewN nq) (w.heap.size + 3) (.slice (some ⟨F, 0, none⟩) (fs.length + 1) fc1) (fs ++ [f]) (es ++ [.slice DA m dc]) from ⟨HF3.out.row, HF3.out.len, HF3.out.dr, HF3.out.dis⟩)
      clear l0 l5 x1 y1 y2 y3
      generalize w3.drewN nq = w4 at *
      have x1 := HX4.out.c1
      have l5 : w4.cell? ⟨Q, q.length * 7 + 5, none⟩ = some (.bool p.rcv) := by
        rw [HP4.out.cellAt _ (by omega), pnL_get (p := p) (by rw [HQ.out]; simp) (by omega)]
        rfl
      have lz : w4.frozen? ⟨Q, q.length * 7 + 5, none⟩ = false := HP4.out.frozenAt _
      have xz := HX4.out.lt
      have HQ4 := Lib.hid (own_ty (b := Q) HP4.out rfl)
      go_upto_region 30 with (fail)
      have HQX := Lib.hid (show Q ≠ w.heap.size ∧ Q ≠ w.heap.size + 1 + 1 from ⟨by omega, by omega⟩)
      have HP5 := Lib.hid (show (w4.setCell ⟨Q, q.length * 7 + 5, none⟩ (.bool true)).ownsRow (w.heap.size + 3) 99 7 (.slice (some ⟨Q, 0, none⟩) (q.length + 1) pc1) (q.length + 1) (pnL (q ++ [rcP p])) from by
        have hst := (HP4.out.stored (q.length * 7 + 5) (.bool true)).1
        rw [HQ.out, pnL_set5] at hst
        exact hst)
      have HF5 := Lib.hid (show FrO (w4.setCell ⟨Q, q.length * 7 + 5, none⟩ (.bool true)) (w.heap.size + 3) (.slice (some ⟨F, 0, none⟩) (fs.length + 1) fc1) (fs ++ [f]) (es ++ [.slice DA m dc]) from by
        obtain ⟨cur, hcur⟩ := HQ4.out
        exact HF4.out.setP hcur (by decide) (by decide))
      have HX5 := Lib.hid (show SB (w4.setCell ⟨Q, q.length * 7 + 5, none⟩ (.bool true)) w.heap.size (.slice (some ⟨F, 0, none⟩) (fs.length + 1) fc1) (.slice (some ⟨Q, 0, none⟩) (q.length + 1) pc1) (stPn s (q ++ [rcP p])) from SB.to HX4.out (sc_keep (w := w4) (g := Q) (j := q.length * 7 + 5) (v := .bool true) (fun e => HQX.out.1 e.symm)))
      have HR5 := Lib.hid (SB.to HR4.out (sc_keep (w := w4) (g := Q) (j := q.length * 7 + 5) (v := .bool true) (fun e => HQX.out.2 e.symm)))
      have HB5 := Lib.hid (HB4.out.setCell (p := ⟨Q, q.length * 7 + 5, none⟩) (by show w.heap.size ≤ Q; omega) (.bool true))
      have HZ5 := Lib.hid (show w.heap.size + 3 ≤ (w4.setCell ⟨Q, q.length * 7 + 5, none⟩ (.bool true)).heap.size from by have := HZ4.out; simpa using this)
      have HS5 := Lib.hid (show STm (w4.setCell ⟨Q, q.length * 7 + 5, none⟩ (.bool true)) (fun b => w.heap.size + 3 ≤ b ∧ b < (w4.setCell ⟨Q, q.length * 7 + 5, none⟩ (.bool true)).heap.size) (.slice (some ⟨F, 0, none⟩) (fs.length + 1) fc1) (.slice (some ⟨Q, 0, none⟩) (q.length + 1) pc1) (stPn s (q ++ [rcP p])) from STm.of (s := stPn s (q ++ [rcP p])) (by show FrO _ _ _ s.fr _; rw [HF.out]; exact HF5.out) (by
        show World.ownsRow _ _ _ _ _ (q ++ [rcP p]).length _
        rw [show (q ++ [rcP p]).length = q.length + 1 from by simp]
        exact HP5.out))
      clear x1 l5 lz xz
      generalize w4.setCell ⟨Q, q.length * 7 + 5, none⟩ (.bool true) = w5 at *
      have hml : ∀ j u, (pnC (rcP p))[j]? = some u → w5.cell? ⟨Q, q.length * 7 + j, none⟩ = some u := fun j u hu => by
        have hj : j < 7 := (List.getElem?_eq_some_iff.1 hu).1
        rw [HP5.out.cellAt _ (by omega), pnL_get (p := rcP p) (by simp) hj]
        exact hu
      have HML := Lib.hid hml
      have m1 : w5.cell? ⟨Q, q.length * 7 + 1, none⟩ = some (.int .i64 p.k) := hml 1 _ rfl
      have m2 : w5.cell? ⟨Q, q.length * 7 + 1 + 1, none⟩ = some (.int .i64 p.n) := hml 2 _ rfl
      have m3 : w5.cell? ⟨Q, q.length * 7 + 1 + 2, none⟩ = some (.string p.s) := hml 3 _ rfl
      have m4 : w5.cell? ⟨Q, q.length * 7 + 1 + 3, none⟩ = some (.slice none 0 0) := hml 4 _ rfl
      have hrq : Q ≠ w.heap.size + 1 + 1 := HQX.out.2
      have hrq' : w.heap.size + 1 + 1 ≠ Q := fun e => hrq e.symm
      have hxr : w.heap.size ≠ w.heap.size + 1 + 1 := by omega
      have hxr' : w.heap.size + 1 + 1 ≠ w.heap.size := by omega
      clear hml
      have x0 := HX5.out.c0
      have x1 := HX5.out.c1
      have x2 := HX5.out.c2
      have x3 := HX5.out.c3
      have x4 := HX5.out.c4
      have x5 := HX5.out.c5
      have r0 := HR5.out.c0
      have r1 := HR5.out.c1
      have r2 := HR5.out.c2
      have r3 := HR5.out.c3
      have r4 := HR5.out.c4
      have r5 := HR5.out.c5
      have y0 := HR5.out.z 0
      have y1 := HR5.out.z 1
      have y2 := HR5.out.z 2
      have y3 := HR5.out.z 3
      have y4 := HR5.out.z 4
      have y5 := HR5.out.z 5
      have gz := HP5.out.lt Q rfl
      have gz2 := gz.2
      clear gz
      have xz := HX5.out.lt
      have rz := HR5.out.lt
      refine (show ?G → _ from fun hk => ?main) ?later
      case main =>
        go_region_held3 (fun w' => w'.cell? ⟨w.heap.size, 0, none⟩ = some (.slice (some ⟨F, 0, none⟩) (fs.length + 1) fc1) ∧ w'.cell? ⟨w.heap.size, 1, none⟩ = some (.slice (some ⟨Q, 0, none⟩) (q.length + 1) pc1) ∧ w'.cell? ⟨w.heap.size, 2, none⟩ = some (.int .i64 ((stPn s (q ++ [rcP p])).next : Int)) ∧ w'.cell? ⟨w.heap.size, 3, none⟩ = some (.int .i64 ((stPn s (q ++ [rcP p])).ser : Int)) ∧ w'.cell? ⟨w.heap.size, 4, none⟩ = some (.int .i64 (stPn s (q ++ [rcP p])).en) ∧ w'.cell? ⟨w.heap.size, 5, none⟩ = some (.int .i64 (stPn s (q ++ [rcP p])).st) ∧ w'.cell? ⟨Q, q.length * 7 + 1, none⟩ = some (.int .i64 p.k) ∧ w'.cell? ⟨Q, q.length * 7 + 1 + 1, none⟩ = some (.int .i64 p.n) ∧ w'.cell? ⟨Q, q.length * 7 + 1 + 2, none⟩ = some (.string p.s) ∧ w'.cell? ⟨Q, q.length * 7 + 1 + 3, none⟩ = some (.slice none 0 0)) (go_keep) (fail)
        all_goals exact hk
      clear hrq hrq' hxr hxr' x0 x1 x2 x3 x4 x5 m1 m2 m3 m4 gz2 xz
      obtain ⟨w7, hw7, b7, k7, l7, s7⟩ := six_at (w := w5) (g := w.heap.size + 1 + 1) (.slice (some ⟨F, 0, none⟩) (fs.length + 1) fc1) (.slice (some ⟨Q, 0, none⟩) (q.length + 1) pc1) (.int .i64 ((stPn s (q ++ [rcP p])).next : Int)) (.int .i64 ((stPn s (q ++ [rcP p])).ser : Int)) (.int .i64 (stPn s (q ++ [rcP p])).en) (.int .i64 (stPn s (q ++ [rcP p])).st) HR5.out
      rw [← hw7]
      have HOW := Lib.hid ((HS5.out.keep (w' := w7) fun pa hp => World.cell?_of_block (k7 pa.block (by omega))))
      have HBW := Lib.hid (l7 w.heap.size (by omega) w HB5.out)
      have HR7 := Lib.hid (show SB (w7.alloc (.cells #[.int .i64 5, .int .i64 0, .int .i64 0, .int .i64 p.k, .int .i64 p.n, .string p.s, .slice none 0 0] 96)).drew (w.heap.size + 1 + 1) (.slice (some ⟨F, 0, none⟩) (fs.length + 1) fc1) (.slice (some ⟨Q, 0, none⟩) (q.length + 1) pc1) (stPn s (q ++ [rcP p])) from (Lib.alloc_old _ _ _ (by rw [s7]; exact HR5.out.lt)).trans b7)
      have HB7 := Lib.hid ((HBW.out.alloc HBW.out.size (.cells #[.int .i64 5, .int .i64 0, .int .i64 0, .int .i64 p.k, .int .i64 p.n, .string p.s, .slice none 0 0] 96)).drew)
      have HT7 := Lib.hid (show TLm (w7.alloc (.cells #[.int .i64 5, .int .i64 0, .int .i64 0, .int .i64 p.k, .int .i64 p.n, .string p.s, .slice none 0 0] 96)).drew (fun b => w.heap.size ≤ b ∧ b < (w7.alloc (.cells #[.int .i64 5, .int .i64 0, .int .i64 0, .int .i64 p.k, .int .i64 p.n, .string p.s, .slice none 0 0] 96)).drew.heap.size) (.slice (some ⟨w7.heap.size, 0, none⟩) 1 1) [⟨5, 0, 0, p.k, p.n, p.s⟩] from tl_oneM (t := ⟨5, 0, 0, p.k, p.n, p.s⟩) (heap_alloc_new w7 _) ⟨HBW.out.size, by simp⟩)
      have HO7 := Lib.hid ((HOW.out.keep (w' := (w7.alloc (.cells #[.int .i64 5, .int .i64 0, .int .i64 0, .int .i64 p.k, .int .i64 p.n, .string p.s, .slice none 0 0] 96)).drew) fun pa hp => (al (w := w7) (.cells #[.int .i64 5, .int .i64 0, .int .i64 0, .int .i64 p.k, .int .i64 p.n, .string p.s, .slice none 0 0] 96)).cell (by have := hp.2; omega)).more (M' := fun b => w.heap.size ≤ b ∧ b < (w7.alloc (.cells #[.int .i64 5, .int .i64 0, .int .i64 0, .int .i64 p.k, .int .i64 p.n, .string p.s, .slice none 0 0] 96)).drew.heap.size) fun b hb => by simp; omega)
      have HS7 := Lib.hid s7
      clear r0 r1 r2 r3 r4 r5 y0 y1 y2 y3 y4 y5 hw7 b7 k7 l7 s7
      generalize (w7.alloc (.cells #[.int .i64 5, .int .i64 0, .int .i64 0, .int .i64 p.k, .int .i64 p.n, .string p.s, .slice none 0 0] 96)).drew = w8 at *
      have r0 := HR7.out.c0
      have r1 := HR7.out.c1
      have r2 := HR7.out.c2
      have r3 := HR7.out.c3
      have r4 := HR7.out.c4
      have r5 := HR7.out.c5
      rw [HS7.out] at HT7
      go_wp2_with fail
      refine bodyPost_ret (v := .tuple #[stV (.slice (some ⟨F, 0, none⟩) (fs.length + 1) fc1) (.slice (some ⟨Q, 0, none⟩) (q.length + 1) pc1) (stPn s (q ++ [rcP p])), .slice (some ⟨w5.heap.size, 0, none⟩) 1 1, .int .i64 0]) (by simp [results, Try.results22, go_sem, r0, r1, r2, r3, r4, r5]) rfl ?_
      exact ⟨.inr ⟨_, _, _, _, _, HEV.out, rfl, HO7.out, HT7.out⟩, HB7.out⟩
  · have b3 : (f.mark != 2) = true := by rw [bne_iff_ne]; exact hm
    have HEV := Lib.hid (show EvR s ⟨5, en, vk, vn, vs⟩ (some (s, [tl3 6 0 0])) from .fin HF.out (by
      show recS s f = _
      unfold recS
      cases s.pn.getLast? with
      | none => rfl
      | some p =>
        show (if f.mark = 2 ∧ p.ser = f.pan ∧ p.rcv = false then _ else _) = _
        rw [if_neg (fun h => hm h.1)]))
    have HM2 := Lib.hid hm
    clear hm
    go_wp2_with fail
    go_quiet (fail)
    have HX4 := Lib.hid (SB.to (W' := w3.drewN nq) HX3.out rfl)
    have HR4 := Lib.hid (SB.to (W' := w3.drewN nq) HR3.out rfl)
    have HB4 := Lib.hid (dr HB3.out nq)
    have HS4 := Lib.hid (show STm (w3.drewN nq) (fun b => w.heap.size + 3 ≤ b ∧ b < (w3.drewN nq).heap.size) (.slice (some ⟨F, 0, none⟩) (fs.length + 1) fc1) (.slice PB np pc1) s from HS3.out.keep (w' := w3.drewN nq) fun p hp => rfl)
    have HZ4 := Lib.hid (show w.heap.size + 3 ≤ (w3.drewN nq).heap.size from by have := HYL.out; show w.heap.size + 3 ≤ w3.heap.size; omega)
    clear x1 y1 y2 y3
    generalize w3.drewN nq = w4 at *
    have x0 := HX4.out.c0
    have x1 := HX4.out.c1
    have x2 := HX4.out.c2
    have x3 := HX4.out.c3
    have x4 := HX4.out.c4
    have x5 := HX4.out.c5
    have gz4 := HX4.out.lt
    have rz4 := HR4.out.lt
    go_upto_region 28 with (fail)
    go_step
    go_step
    go_step
    go_step
    go_step
    go_step
    go_step
    go_step
    go_step
    have HR5 := Lib.hid (SB.to HR4.out (Lib.alloc_old w4 (.cells #[.int .i64 6, .int .i64 0, .int .i64 0, .int .i64 0, .int .i64 0, .string ⟨#[]⟩, .slice none 0 0] 96) _ HR4.out.lt))
    have HB5 := Lib.hid (HB4.out.alloc HB4.out.size (.cells #[.int .i64 6, .int .i64 0, .int .i64 0, .int .i64 0, .int .i64 0, .string ⟨#[]⟩, .slice none 0 0] 96))
    have HS5 := Lib.hid ((HS4.out.keep fun p hp => (al (w := w4) (.cells #[.int .i64 6, .int .i64 0, .int .i64 0, .int .i64 0, .int .i64 0, .string ⟨#[]⟩, .slice none 0 0] 96)).cell hp.2).more (M' := fun b => w.heap.size + 3 ≤ b ∧ b < (w4.alloc (.cells #[.int .i64 6, .int .i64 0, .int .i64 0, .int .i64 0, .int .i64 0, .string ⟨#[]⟩, .slice none 0 0] 96)).heap.size) fun b hb => by simp; omega)
    have HT5 := Lib.hid (show TLm (w4.alloc (.cells #[.int .i64 6, .int .i64 0, .int .i64 0, .int .i64 0, .int .i64 0, .string ⟨#[]⟩, .slice none 0 0] 96)) (fun b => w.heap.size + 3 ≤ b ∧ b < (w4.alloc (.cells #[.int .i64 6, .int .i64 0, .int .i64 0, .int .i64 0, .int .i64 0, .string ⟨#[]⟩, .slice none 0 0] 96)).heap.size) (.slice (some ⟨w4.heap.size, 0, none⟩) 1 1) [tl3 6 0 0] from tl_oneM (t := tl3 6 0 0) (heap_alloc_new w4 _) ⟨HZ4.out, by simp⟩)
    clear x0 x1 x2 x3 x4 x5 gz4 rz4
    generalize w4.alloc (.cells #[.int .i64 6, .int .i64 0, .int .i64 0, .int .i64 0, .int .i64 0, .string ⟨#[]⟩, .slice none 0 0] 96) = w5 at *
    generalize w4.heap.size = g4 at *
    have r0 := HR5.out.c0
    have r1 := HR5.out.c1
    have r2 := HR5.out.c2
    have r3 := HR5.out.c3
    have r4 := HR5.out.c4
    have r5 := HR5.out.c5
    have y0 := HR5.out.z 0
    have y1 := HR5.out.z 1
    have y2 := HR5.out.z 2
    have y3 := HR5.out.z 3
    have y4 := HR5.out.z 4
    have y5 := HR5.out.z 5
    have rz5 := HR5.out.lt
    go_wp2_with fail
    obtain ⟨w7, hw7, b7, k7, l7, s7⟩ := six_at (w := w5) (g := w.heap.size + 1 + 1) (.slice (some ⟨F, 0, none⟩) (fs.length + 1) fc1) (.slice PB np pc1) (.int .i64 ((s).next : Int)) (.int .i64 ((s).ser : Int)) (.int .i64 (s).en) (.int .i64 (s).st) HR5.out
    rw [← hw7]
    have HEND := Lib.hid (sp_end (s := s) (v := ⟨5, en, vk, vn, vs⟩) (tv := .slice (some ⟨g4, 0, none⟩) 1 1) HEV.out HS5.out HT5.out HB5.out k7 l7 s7)
    have hR7 : SB w7 (w.heap.size + 1 + 1) (.slice (some ⟨F, 0, none⟩) (fs.length + 1) fc1) (.slice PB np pc1) (s) := b7
    clear r0 r1 r2 r3 r4 r5 y0 y1 y2 y3 y4 y5 hw7 b7 k7 l7 s7
    have r0 := hR7.c0
    have r1 := hR7.c1
    have r2 := hR7.c2
    have r3 := hR7.c3
    have r4 := hR7.c4
    have r5 := hR7.c5
    clear hR7
    refine bodyPost_ret (v := .tuple #[stV (.slice (some ⟨F, 0, none⟩) (fs.length + 1) fc1) (.slice PB np pc1) (s), .slice (some ⟨g4, 0, none⟩) 1 1, .int .i64 0]) (by simp [results, Try.results22, go_sem, r0, r1, r2, r3, r4, r5]) rfl ?_
    exact HEND.out
end
end Go.Proofs.Ytapofohbngkekaa
