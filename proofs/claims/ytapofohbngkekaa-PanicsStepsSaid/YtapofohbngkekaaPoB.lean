/- The document's 'goOn' where no deferred call is left, and it leaves. Conditions: what holds of all states that are come to. -/
import Derived.Test.YtapofohbngkekaaPoA
set_option maxRecDepth 100000
namespace Go.Proofs.Ytapofohbngkekaa
open Go.ChangeShapes Go.WideShapes Go.ChangeAt Go.RowKit
section
variable (FA PA : Option Addr) (nf fc np pc : Nat) (s : ST) (fs : List FR) (f : FR) (M : Nat → Prop) (w : World) (hsm : STm w M (.slice FA nf fc) (.slice PA np pc) s) (hM : ∀ b, M b → b < w.heap.size) (hf : s.fr = fs ++ [f])
set_option maxHeartbeats 60000000 in
include hsm hM hf in
theorem goOn_nil1 (a0 b0 : Nat) (hbd : Bd a0 b0 s) (hgv : Gv s) (hb0 : b0 ≤ 100000) (hd : f.ds.length = 0) (hph : f.ph = 1)
    (ih : ∀ (FA' PA' : Option Addr) (nf' fc' np' pc' : Nat) (s' : ST) (M' : Nat → Prop) (w' : World), s'.fr.length < s.fr.length → Bd a0 b0 s' → Gv s' → STm w' M' (.slice FA' nf' fc') (.slice PA' np' pc') s' → (∀ b, M' b → b < w'.heap.size) → Calls Try.prog 50 #[stV (.slice FA' nf' fc') (.slice PA' np' pc') s'] w' (GoP s' M' w')) :
    Calls Try.prog 50 #[stV (.slice FA nf fc) (.slice PA np pc) s] w (GoP s M w) := by
  have HIH := Lib.hid ih
  have HGV := Lib.hid hgv
  have HBD := Lib.hid hbd
  have hs := hsm.r hM
  have hpl : np ≤ 100000 := by
    obtain ⟨_, ⟨A, c, e, _⟩⟩ := hs
    injection e with _ e _
    rw [e]
    exact Nat.le_trans hbd.pn hb0
  have hfl : fs.length + 1 ≤ 30 := by have := hbd.fr; rw [hf] at this; simpa using this
  have hnx : s.fr.length = fs.length + 1 := by rw [hf]; simp
  have HC := Lib.hid (fun W (hW : Below w.heap.size w W) => copyState_any FA PA nf fc np pc s W ((hs.into hW).more hW.size) hbd.ok (by
    obtain ⟨⟨A, c, ds, e, _⟩, _⟩ := hs
    injection e with _ e _
    rw [e, hnx]
    omega) hpl fun g hg => Nat.le_trans (hbd.ds g hg).1 hb0)
  obtain ⟨b, off, D, dc, rfl, hb, hnf', e0, e1, e2, e3, e4, hdc, hdm, hdr, _, _⟩ := hs.top hf
  subst hnf'
  have HF := Lib.hid hf
  rw [hd] at e4
  have HD := Lib.hid hd
  clear hs hsm hM hf hgv hbd ih hdc hdm hdr hd hnx
  have b1 : (f.ph == 2) = false := by rw [hph]; rfl
  have HPH := Lib.hid hph
  clear hph
  go_enter Try.func50, Try.ntmps50
  go_upto_region 13 with (fail)
  have HW := Lib.hid (boxes3 w (.slice (some ⟨b, off, none⟩) (fs.length + 1) fc) (.slice PA np pc) s (frC f (.slice D 0 dc)))
  unfold pre3 at HW
  simp only [frC] at HW
  generalize ((w.alloc (.cells #[.slice (some ⟨b, off, none⟩) (fs.length + 1) fc, .slice PA np pc, .int .i64 (s.next : Int), .int .i64 (s.ser : Int), .int .i64 s.en, .int .i64 s.st] 56)).alloc (.cells #[.slice none 0 0, .slice none 0 0, .int .i64 0, .int .i64 0, .int .i64 0, .int .i64 0] 56)).alloc (.cells #[.int .i64 f.id, .int .i64 f.mark, .int .i64 f.pan, .int .i64 f.ph, .slice D 0 dc] 93) = wa at *
  obtain ⟨hX, hR, hY, hBa, hza⟩ := HW.out
  clear HW
  have HX := Lib.hid hX
  have HR := Lib.hid hR
  have HY := Lib.hid hY
  have HBA := Lib.hid hBa
  have HZA := Lib.hid hza
  clear hX hR hY hBa hza
  have x0 := HX.out.c0
  have x1 := HX.out.c1
  have x2 := HX.out.c2
  have x3 := HX.out.c3
  have x4 := HX.out.c4
  have x5 := HX.out.c5
  go_wp2_with fail
  refine Calls.mono (HC.out wa HBA.out) ?_
  rintro e w1 ⟨fv, pv, ds, rfl, hfo, hpo, hb1⟩
  obtain ⟨FB, fc1, rfl⟩ := own_form hfo.row
  obtain ⟨PB, pc1, rfl⟩ := own_form hpo
  have HX1 := Lib.hid (SB.to HX.out (hb1.block _ HX.out.lt))
  have HR1 := Lib.hid (SB.to HR.out (hb1.block _ HR.out.lt))
  have HY1 := Lib.hid ((hb1.block (w.heap.size + 2) (by have := HZA.out; omega)).trans HY.out)
  have HB1 := Lib.hid (sq HBA.out hb1)
  have HZ1 := Lib.hid (show w.heap.size + 3 ≤ w1.heap.size by have := hb1.size; have := HZA.out; omega)
  rw [HZA.out] at hfo hpo
  have HFO := Lib.hid hfo
  have HPO := Lib.hid hpo
  have hl : s.fr.length = fs.length + 1 := by rw [HF.out]; simp
  rw [hl] at HFO ⊢
  obtain ⟨np1, hnp1⟩ : ∃ n, s.pn.length = n := ⟨_, rfl⟩
  rw [hnp1] at HPO ⊢
  have HNP := Lib.hid hnp1
  clear hb1 hfo hpo HX HR HY HBA HZA HC x0 x1 x2 x3 x4 x5 hl hnp1
  have x0 := HX1.out.c0
  have x1 := HX1.out.c1
  have x2 := HX1.out.c2
  have x3 := HX1.out.c3
  have x4 := HX1.out.c4
  have x5 := HX1.out.c5
  have z0 := HX1.out.z 0
  have z1 := HX1.out.z 1
  have z2 := HX1.out.z 2
  have z3 := HX1.out.z 3
  have z4 := HX1.out.z 4
  have z5 := HX1.out.z 5
  go_upto_region 14 with (fail)
  obtain ⟨w2, hw2, b2, k2, l2, s2⟩ := six_at (w := w1) (g := w.heap.size) (.slice FB (fs.length + 1) fc1) (.slice PB np1 pc1) (.int .i64 (s.next : Int)) (.int .i64 (s.ser : Int)) (.int .i64 s.en) (.int .i64 s.st) HX1.out
  rw [← hw2]
  have HX2 := Lib.hid (show SB w2 w.heap.size (.slice FB (fs.length + 1) fc1) (.slice PB np1 pc1) s from b2)
  have HR2 := Lib.hid (SB.to HR1.out (k2 _ (by omega)))
  have HY2 := Lib.hid ((k2 (w.heap.size + 2) (by omega)).trans HY1.out)
  have HB2 := Lib.hid (l2 w.heap.size (Nat.le_refl _) w HB1.out)
  have HZ2 := Lib.hid (show w.heap.size + 3 ≤ w2.heap.size by rw [s2]; exact HZ1.out)
  have HF2 := Lib.hid (show FrO w2 (w.heap.size + 3) (.slice FB (fs.length + 1) fc1) s.fr ds from HFO.out.stay fun b cs t hb ht => k2 b (fun e => by
    rw [e, HX1.out] at hb
    injection hb with hb
    injection hb with _ hb
    subst hb
    rcases ht with ht | ht <;> exact absurd ht (by decide)))
  have HP2 := Lib.hid (own_stay (w' := w2) HPO.out fun b hb => k2 b (fun e => by have := (HPO.out.lt b hb).1; omega))
  clear x0 x1 x2 x3 x4 x5 z0 z1 z2 z3 z4 z5 hw2 b2 k2 l2 s2 HX1 HR1 HY1 HB1 HZ1 HFO HPO
  have x0 := HX2.out.c0
  have z0 := HX2.out.z 0
  have hf1 := (HF2.out.read)
  obtain ⟨A9, c9, e9, hle9, _, _⟩ := hf1
  injection e9 with e91 e92 e93
  have hle : fs.length ≤ fc1 := by rw [e93]; omega
  clear e91 e92 e93 hle9
  have hlz : (fs.length : Int) ≤ (fc1 : Int) := by omega
  go_upto_region 15 with (fail)
  have HX3 := Lib.hid (show SB (w2.setCell ⟨w.heap.size, 0, none⟩ (.slice FB fs.length fc1)) w.heap.size (.slice FB fs.length fc1) (.slice PB np1 pc1) (stFr s fs) from heap_setN HX2.out _)
  have HR3 := Lib.hid (SB.to HR2.out (sc_keep (w := w2) (g := w.heap.size) (j := 0) (v := .slice FB fs.length fc1) (by omega)))
  have HY3 := Lib.hid ((sc_keep (w := w2) (g := w.heap.size) (j := 0) (v := .slice FB fs.length fc1) (by omega : w.heap.size + 2 ≠ w.heap.size)).trans HY2.out)
  have HB3 := Lib.hid (HB2.out.setCell (p := ⟨w.heap.size, 0, none⟩) (Nat.le_refl _) (.slice FB fs.length fc1))
  have HZ3 := Lib.hid (show w.heap.size + 3 ≤ (w2.setCell ⟨w.heap.size, 0, none⟩ (.slice FB fs.length fc1)).heap.size by simpa using HZ2.out)
  have HS3 := Lib.hid (show STm (w2.setCell ⟨w.heap.size, 0, none⟩ (.slice FB fs.length fc1)) (fun b => w.heap.size + 3 ≤ b ∧ b < (w2.setCell ⟨w.heap.size, 0, none⟩ (.slice FB fs.length fc1)).heap.size) (.slice FB fs.length fc1) (.slice PB np1 pc1) (stFr s fs) from by
    have h1 : STm w2 (fun b => w.heap.size + 3 ≤ b ∧ b < w2.heap.size) (.slice FB (fs.length + 1) fc1) (.slice PB np1 pc1) s := STm.of HF2.out (by rw [HNP.out]; exact HP2.out)
    refine ((h1.cut HF.out).keep fun p hp => World.cell?_of_block (sc_keep (by have := hp.1; omega))).more fun b hb => ?_
    simpa using hb)
  have HP3 := Lib.hid (own_stay (w' := w2.setCell ⟨w.heap.size, 0, none⟩ (.slice FB fs.length fc1)) HP2.out fun b hb => sc_keep (fun e => by have := (HP2.out.lt b hb).1; omega))
  have HFM3 := Lib.hid (show ∃ es, FrM (w2.setCell ⟨w.heap.size, 0, none⟩ (.slice FB fs.length fc1)) (fun b => (w.heap.size + 3 ≤ b ∧ b < w2.heap.size) ∧ (Value.slice PB np1 pc1).ownBlock ≠ some b) FB fs es from by
    have h9 := HF2.out.mNe HP2.out
    rw [HF.out] at h9
    obtain ⟨es, h8⟩ := h9.cut
    exact ⟨es, h8.keep fun p hp => World.cell?_of_block (sc_keep (by have := hp.1.1; omega))⟩)
  have HZS := Lib.hid (show w2.heap.size = (w2.setCell ⟨w.heap.size, 0, none⟩ (.slice FB fs.length fc1)).heap.size by simp)
  rw [HZS.out] at HFM3
  clear HX2 HR2 HY2 HB2 HZ2 HF2 HP2 HZS x0 z0
  generalize w2.setCell ⟨w.heap.size, 0, none⟩ (.slice FB fs.length fc1) = w3 at *
  have y0 : w3.cell? ⟨w.heap.size + 1 + 1, 0, none⟩ = some (.int .i64 f.id) := by rw [Lib.cell_of_heap HY3.out]; rfl
  have y3 : w3.cell? ⟨w.heap.size + 1 + 1, 3, none⟩ = some (.int .i64 f.ph) := by rw [Lib.cell_of_heap HY3.out]; rfl
  have yz : w.heap.size + 1 + 1 < w3.heap.size := by have := HZ3.out; omega
  go_upto_region 18 with (fail)
  have HT4 := Lib.hid (show (w3.alloc (.cells #[.int .i64 3, .int .i64 f.id, .int .i64 0, .int .i64 0, .int .i64 0, .string ⟨#[]⟩, .slice none 0 0] 96)).heap[w3.heap.size]? = some (.cells (tlC (tl3 3 f.id 0)).toArray 96 (0, 0)) from heap_alloc_new w3 _)
  have HX4 := Lib.hid (SB.to HX3.out (Lib.alloc_old w3 (.cells #[.int .i64 3, .int .i64 f.id, .int .i64 0, .int .i64 0, .int .i64 0, .string ⟨#[]⟩, .slice none 0 0] 96) _ HX3.out.lt))
  have HR4 := Lib.hid (SB.to HR3.out (Lib.alloc_old w3 (.cells #[.int .i64 3, .int .i64 f.id, .int .i64 0, .int .i64 0, .int .i64 0, .string ⟨#[]⟩, .slice none 0 0] 96) _ HR3.out.lt))
  have HY4 := Lib.hid ((Lib.alloc_old w3 (.cells #[.int .i64 3, .int .i64 f.id, .int .i64 0, .int .i64 0, .int .i64 0, .string ⟨#[]⟩, .slice none 0 0] 96) (w.heap.size + 2) (by omega)).trans HY3.out)
  have HB4 := Lib.hid (HB3.out.alloc (by have := HZ3.out; omega) (.cells #[.int .i64 3, .int .i64 f.id, .int .i64 0, .int .i64 0, .int .i64 0, .string ⟨#[]⟩, .slice none 0 0] 96))
  have HS4 := Lib.hid (HS3.out.keep fun p hp => (al (w := w3) (.cells #[.int .i64 3, .int .i64 f.id, .int .i64 0, .int .i64 0, .int .i64 0, .string ⟨#[]⟩, .slice none 0 0] 96)).cell hp.2)
  have HP4 := Lib.hid (own_below HP3.out (al (w := w3) (.cells #[.int .i64 3, .int .i64 f.id, .int .i64 0, .int .i64 0, .int .i64 0, .string ⟨#[]⟩, .slice none 0 0] 96)))
  have HPB := Lib.hid (fun b hb => HP3.out.lt b hb)
  have HFM4 := Lib.hid (show ∃ es, FrM (w3.alloc (.cells #[.int .i64 3, .int .i64 f.id, .int .i64 0, .int .i64 0, .int .i64 0, .string ⟨#[]⟩, .slice none 0 0] 96)) (fun b => (w.heap.size + 3 ≤ b ∧ b < w3.heap.size) ∧ (Value.slice PB np1 pc1).ownBlock ≠ some b) FB fs es from by
    obtain ⟨es, h8⟩ := HFM3.out
    exact ⟨es, h8.keep fun p hp => (al (w := w3) (.cells #[.int .i64 3, .int .i64 f.id, .int .i64 0, .int .i64 0, .int .i64 0, .string ⟨#[]⟩, .slice none 0 0] 96)).cell hp.1.2⟩)
  clear HFM3
  have HTZ := Lib.hid (show w.heap.size + 3 ≤ w3.heap.size ∧ w3.heap.size < (w3.alloc (.cells #[.int .i64 3, .int .i64 f.id, .int .i64 0, .int .i64 0, .int .i64 0, .string ⟨#[]⟩, .slice none 0 0] 96)).heap.size from ⟨HZ3.out, by simp⟩)
  clear HX3 HR3 HY3 HB3 HS3 HP3 HZ3 y0 y3 yz e0 e1 e2 e3 e4
  generalize w3.alloc (.cells #[.int .i64 3, .int .i64 f.id, .int .i64 0, .int .i64 0, .int .i64 0, .string ⟨#[]⟩, .slice none 0 0] 96) = w4 at *
  generalize w3.heap.size = T at *
  by_cases h0 : fs.length = 0
  · have y1 : w4.cell? ⟨w.heap.size + 1 + 1, 1, none⟩ = some (.int .i64 f.mark) := by rw [Lib.cell_of_heap HY4.out]; rfl
    have y2 : w4.cell? ⟨w.heap.size + 1 + 1, 2, none⟩ = some (.int .i64 f.pan) := by rw [Lib.cell_of_heap HY4.out]; rfl
    have y3 : w4.cell? ⟨w.heap.size + 1 + 1, 3, none⟩ = some (.int .i64 f.ph) := by rw [Lib.cell_of_heap HY4.out]; rfl
    have yz : w.heap.size + 1 + 1 < w4.heap.size := by have := HTZ.out; omega
    have b2 : ((fs.length : Int) == 0) = true := by rw [beq_iff_eq]; omega
    have H0 := Lib.hid h0
    clear h0
    go_upto_block 0 with (fail)
    go_cut [12] from 91 to 180 (fun v wx => MidP s (tl3 3 f.id 0) T w v wx)
    case first =>
      have x0 := HX4.out.c0
      have x1 := HX4.out.c1
      have x2 := HX4.out.c2
      have x3 := HX4.out.c3
      have x4 := HX4.out.c4
      have x5 := HX4.out.c5
      have HST := Lib.hid (show goStep s fs f = .fin (overS (stFr s fs) 1 0) [tl3 3 f.id 0, tl3 7 1 0] from by
        unfold goStep
        rw [if_pos HD.out]
        simp [H0.out, HPH.out])
      go_wp2_with fail
      refine Calls.mono (ended_any FB PB fs.length fc1 np1 pc1 (stFr s fs) 1 0 w4) ?_
      rintro e w5 ⟨tv, rfl, htv, hb5⟩
      obtain ⟨A7, c7, e7, h7⟩ := htv
      subst e7
      have HTV := Lib.hid (show TLm w5 (fun b => w4.heap.size ≤ b ∧ b < w5.heap.size) (.slice A7 [tl3 7 1 0].length c7) [tl3 7 1 0] from ⟨_, _, rfl, h7⟩)
      have HB5 := Lib.hid hb5
      have HX5 := Lib.hid (SB.to HX4.out (hb5.block _ HX4.out.lt))
      clear hb5 h7
      clear x0 x1 x2 x3 x4 x5
      have x0 := HX5.out.c0
      have x1 := HX5.out.c1
      have x2 := HX5.out.c2
      have x3 := HX5.out.c3
      have x4 := HX5.out.c4
      have x5 := HX5.out.c5
      have z0 := HX5.out.z 0
      have z1 := HX5.out.z 1
      have z2 := HX5.out.z 2
      have z3 := HX5.out.z 3
      have z4 := HX5.out.z 4
      have z5 := HX5.out.z 5
      go_wp2_with fail
      obtain ⟨w6, hw6, b6, k6, l6, s6⟩ := six_at (w := w5) (g := w.heap.size) (.slice FB fs.length fc1) (.slice PB np1 pc1) (.int .i64 ((overS (stFr s fs) 1 0).next : Int)) (.int .i64 ((overS (stFr s fs) 1 0).ser : Int)) (.int .i64 (overS (stFr s fs) 1 0).en) (.int .i64 (overS (stFr s fs) 1 0).st) HX5.out
      rw [← hw6]
      go_meet
      case rel =>
        refine MidP.mk' (s := s) (W := w4) (w' := w5) (M' := fun b => w.heap.size + 3 ≤ b ∧ b < T) (.done HF.out HST.out) (fin_few HST.out) ?_ (fun b hb => ⟨hb.1, by have := HTZ.out; omega, by omega⟩) HTV.out HTZ.out HB4.out HB5.out HT4.out HR4.out b6 k6 l6 s6
        obtain ⟨q1, q2⟩ := (HS4.out.keep fun p hp => HB5.out.cell (by have := HTZ.out; have := hp.2; omega)).more (M' := fun b => (w.heap.size + 3 ≤ b ∧ b < T) ∨ (w4.heap.size ≤ b ∧ b < w5.heap.size)) fun b h => .inl h
        exact ⟨q1, q2⟩
    case rest =>
      obtain ⟨r, ts, fv, pv, hm⟩ := hcut
      obtain ⟨A5, c5, ds5, e5, _⟩ := hm.st.fr
      obtain ⟨A6, c6, e6, _⟩ := hm.st.pn
      obtain ⟨A7, c7, e7, h7a, h7b, h7r⟩ := hm.tl
      subst e5 e6 e7
      have HMC := Lib.hid hm
      have HRT := Lib.hid (show Rd wc.drew wc.heap.size 7 A7 ts.length (tlL ts) from h7r.rd fun b hb => hb.1.2)
      have hml : ts.length ≤ 100 := hm.few
      have HOC := Lib.hid (show ∀ u ∈ tlL ts, u.oneCell' = true from fun u hu => by
        obtain ⟨c, hc, hu⟩ := List.mem_flatten.1 hu
        obtain ⟨q, _, rfl⟩ := List.mem_map.1 hc
        simp [tlC] at hu
        rcases hu with rfl | rfl | rfl | rfl | rfl | rfl | rfl <;> rfl)
      have HTO := Lib.hid (show wc.drew.ownsRow (w.heap.size + 2) 96 7 (.slice (some ⟨T, 0, none⟩) 1 1) 1 (tlC (tl3 3 f.id 0)) from own_new hm.tb (by have := HTZ.out; omega) rfl)
      have HSZ := Lib.hid (show w.heap.size + 2 ≤ wc.heap.size from by have := hm.rb.lt; omega)
      have HGX := Lib.hid (fun (w8 : World) (hg : wc.drew.grownBy w8 (Value.slice (some ⟨T, 0, none⟩) 1 1).ownBlock) => show SB w8 w.heap.size (.slice A5 r.fr.length c5) (.slice A6 r.pn.length c6) r ∧ SB w8 (w.heap.size + 1) (.slice none 0 0) (.slice none 0 0) zeroST from
        ⟨(hg.block w.heap.size hm.x.lt (by have := HTZ.out; intro e; injection e with e; have e' : _ = T := e; omega)).trans hm.x, (hg.block (w.heap.size + 1) hm.rb.lt (by have := HTZ.out; intro e; injection e with e; have e' : _ = T := e; omega)).trans hm.rb⟩)
      clear h7r hm
      obtain ⟨t0, ht, tz0, tz1, tz2⟩ := info_parts info_tell
      have x0 := HMC.out.x.c0
      have x1 := HMC.out.x.c1
      have x2 := HMC.out.x.c2
      have x3 := HMC.out.x.c3
      have x4 := HMC.out.x.c4
      have x5 := HMC.out.x.c5
      have xz := HMC.out.x.lt
      have HT0 := Lib.hid ht
      have HT1 := Lib.hid tz0
      have HT2 := Lib.hid tz1
      have HT3 := Lib.hid tz2
      clear ht tz0 tz1 tz2
      go_wp2_with fail
      go_region_law (first
        | (refine step_append_flat rfl (.tmp 182) (.tmp 183) 57 rfl (w.heap.size + 2) 96 t0 _ 7 80 Try.underlying57 HT0.out HT1.out HT2.out HT3.out rfl (by omega) (.slice (some ⟨T, 0, none⟩) 1 1) 1 (tlC (tl3 3 f.id 0)) rfl HTO.out wc.heap.size A7 ts.length c7 (tlL ts) rfl HRT.out HOC.out (by unfold maxLen; omega) (by omega) HSZ.out ?_; intro A8 c8 w8 hown8 hgrow8; have HO8 := Lib.hid hown8; have HG8 := Lib.hid hgrow8; have HX8 := Lib.hid (HGX.out _ hgrow8); have x80 := HX8.out.1.c0; have x81 := HX8.out.1.c1; have x82 := HX8.out.1.c2; have x83 := HX8.out.1.c3; have x84 := HX8.out.1.c4; have x85 := HX8.out.1.c5; have r80 := HX8.out.2.c0; have r81 := HX8.out.2.c1; have r82 := HX8.out.2.c2; have r83 := HX8.out.2.c3; have r84 := HX8.out.2.c4; have r85 := HX8.out.2.c5; have v80 := HX8.out.2.z 0; have v81 := HX8.out.2.z 1; have v82 := HX8.out.2.z 2; have v83 := HX8.out.2.z 3; have v84 := HX8.out.2.z 4; have v85 := HX8.out.2.z 5; have xz8 := HX8.out.1.lt; have rz8 := HX8.out.2.lt; clear hown8 hgrow8)
        | fail "no")
      all_goals (
        go_wp2_with fail
        obtain ⟨w9, hw9, b9, k9, l9, s9⟩ := six_at (w := w8) (g := w.heap.size + 1) (.slice A5 r.fr.length c5) (.slice A6 r.pn.length c6) (.int .i64 (r.next : Int)) (.int .i64 (r.ser : Int)) (.int .i64 r.en) (.int .i64 r.st) HX8.out.2
        rw [← hw9]
        have HE := Lib.hid (go_end (M := M) HMC.out HTZ.out.1 HO8.out ⟨HG8.out.os, HG8.out.tape, HG8.out.output, HG8.out.size, HG8.out.block⟩ k9 l9 s9)
        have hR9 : SB w9 (w.heap.size + 1) (.slice A5 r.fr.length c5) (.slice A6 r.pn.length c6) r := b9
        clear x80 x81 x82 x83 x84 x85 r80 r81 r82 r83 r84 r85 v80 v81 v82 v83 v84 v85 hw9 k9 l9 s9 b9
        have r0 := hR9.c0
        have r1 := hR9.c1
        have r2 := hR9.c2
        have r3 := hR9.c3
        have r4 := hR9.c4
        have r5 := hR9.c5
        clear hR9
        refine bodyPost_ret (v := .tuple #[stV (.slice A5 r.fr.length c5) (.slice A6 r.pn.length c6) r, .slice A8 (1 + ts.length) c8]) (by simp [results, Try.results50, go_sem, r0, r1, r2, r3, r4, r5]) rfl ?_
        exact HE.out)
  · have y1 : w4.cell? ⟨w.heap.size + 1 + 1, 1, none⟩ = some (.int .i64 f.mark) := by rw [Lib.cell_of_heap HY4.out]; rfl
    have y2 : w4.cell? ⟨w.heap.size + 1 + 1, 2, none⟩ = some (.int .i64 f.pan) := by rw [Lib.cell_of_heap HY4.out]; rfl
    have y3 : w4.cell? ⟨w.heap.size + 1 + 1, 3, none⟩ = some (.int .i64 f.ph) := by rw [Lib.cell_of_heap HY4.out]; rfl
    have yz : w.heap.size + 1 + 1 < w4.heap.size := by have := HTZ.out; omega
    have b2 : ((fs.length : Int) == 0) = false := by rw [beq_eq_false_iff_ne]; omega
    have H0 := Lib.hid h0
    clear h0
    go_upto_block 0 with (fail)
    go_cut [12] from 91 to 180 (fun v wx => MidP s (tl3 3 f.id 0) T w v wx)
    case first =>
      have hms := (HBD.out.ds f (by rw [HF.out]; simp)).2
      rcases hms with hm | hm | hm
      · have b3 : (f.mark == 1) = false := by rw [hm]; rfl
        have b4 : (f.mark == 2) = false := by rw [hm]; rfl
        have HM := Lib.hid hm
        clear hm
        have HST := Lib.hid (show goStep s fs f = .fin (stFr s fs) [tl3 3 f.id 0] from by
          unfold goStep
          rw [if_pos HD.out]
          simp [H0.out, HPH.out, HM.out])
        go_wp2_with fail
        go_meet
        case rel =>
          refine ⟨stFr s fs, [], _, _, .done HF.out HST.out, by simp, HX4.out, HS4.out.more fun b hb => ⟨⟨hb.1, by have := HTZ.out; omega⟩, by omega⟩, ?_, HB4.out, HR4.out, HT4.out⟩
          exact ⟨none, 0, rfl, Nat.le_refl _, by unfold maxLen; omega, RdM.nil⟩
      · have b3 : (f.mark == 1) = true := by rw [hm]; rfl
        have HM := Lib.hid hm
        clear hm
        have x0 := HX4.out.c0
        have x1 := HX4.out.c1
        have x2 := HX4.out.c2
        have x3 := HX4.out.c3
        have x4 := HX4.out.c4
        have x5 := HX4.out.c5
        have HST := Lib.hid (show goStep s fs f = .go (stFr s fs) [tl3 3 f.id 0] from by
          unfold goStep
          rw [if_pos HD.out]
          simp [H0.out, HPH.out, HM.out])
        have HK := Lib.hid ((go_keeps HBD.out HGV.out HF.out).2.1 _ _ HST.out)
        go_wp2_with fail
        refine Calls.mono (HIH.out FB PB fs.length fc1 np1 pc1 (stFr s fs) (fun b => w.heap.size + 3 ≤ b ∧ b < T) w4 HK.out.2.2 HK.out.1 HK.out.2.1 HS4.out (by intro b hb; have := HTZ.out; omega)) ?_
        rintro e w9 ⟨r, ts, fv, pv, tv, hgo, rfl, hS9, hT9, hb9⟩
        obtain ⟨A5, c5, ds5, e5, h5⟩ := hS9.fr
        obtain ⟨A6, c6, e6, h6⟩ := hS9.pn
        obtain ⟨A7, c7, e7, h7⟩ := hT9
        subst e5 e6 e7
        have HGO := Lib.hid hgo
        have HT9 := Lib.hid (show TLm w9 (fun b => w4.heap.size ≤ b ∧ b < w9.heap.size) (.slice A7 ts.length c7) ts from ⟨_, _, rfl, h7⟩)
        have HS9 := Lib.hid hS9
        have HB9 := Lib.hid hb9
        have HX9 := Lib.hid (SB.to HX4.out (hb9.block _ HX4.out.lt))
        clear hgo hS9 hb9 h5 h6 h7
        clear x0 x1 x2 x3 x4 x5
        have x0 := HX9.out.c0
        have x1 := HX9.out.c1
        have x2 := HX9.out.c2
        have x3 := HX9.out.c3
        have x4 := HX9.out.c4
        have x5 := HX9.out.c5
        have z0 := HX9.out.z 0
        have z1 := HX9.out.z 1
        have z2 := HX9.out.z 2
        have z3 := HX9.out.z 3
        have z4 := HX9.out.z 4
        have z5 := HX9.out.z 5
        go_wp2_with fail
        obtain ⟨wz, hwz, bz, kz, lz, sz⟩ := six_at (w := w9) (g := w.heap.size) (.slice A5 r.fr.length c5) (.slice A6 r.pn.length c6) (.int .i64 (r.next : Int)) (.int .i64 (r.ser : Int)) (.int .i64 r.en) (.int .i64 r.st) HX9.out
        rw [← hwz]
        go_meet
        case rel => exact MidP.mk' (s := s) (W := w4) (w' := w9) (M' := fun b => w.heap.size + 3 ≤ b ∧ b < T) (.step HF.out HST.out HGO.out) (go_few HGO.out HK.out.1 HK.out.2.1) HS9.out (fun b hb => by have := HTZ.out; omega) HT9.out HTZ.out HB4.out HB9.out HT4.out HR4.out bz kz lz sz
      · have b3 : (f.mark == 1) = false := by rw [hm]; rfl
        have b4 : (f.mark == 2) = true := by rw [hm]; rfl
        have HM := Lib.hid hm
        clear hm
        have HL := Lib.hid (show ∃ q p, s.pn = q ++ [p] from by
          obtain ⟨fs', f', e, h⟩ := HGV.out.top
          obtain ⟨rfl, rfl⟩ := snoc_inj (HF.out.symm.trans e)
          rcases h with h | h
          · have h2 := h.2
            rw [HF.out, rsers_snoc, if_pos HM.out] at h2
            obtain ⟨p, hp, _⟩ := h2.last
            exact ⟨_, _, getLast_snoc hp⟩
          · exact absurd (HPH.out.symm.trans h.1) (by decide))
        obtain ⟨q, p, hq⟩ := HL.out
        have hql : np1 = q.length + 1 := by rw [← HNP.out, hq]; simp
        subst hql
        obtain ⟨Q, c', e', hQ, hQz, hn1, hn2⟩ := own_formF HP4.out (by omega)
        injection e' with e1 e2 e3
        subst e1 e3
        clear e2
        have p5 : w4.cell? ⟨Q, q.length * 7 + 5, none⟩ = some (.bool p.rcv) := by
          rw [HP4.out.cellAt _ (by omega), pnL_get (p := p) (by rw [hq]; simp) (by omega)]
          rfl
        have HLR := Lib.hid (show lastRec s.pn = p.rcv by unfold lastRec; rw [hq]; simp)
        have hqb : q.length + 1 ≤ 100000 := by have := HBD.out.pn; rw [HNP.out] at this; omega
        have hwq : IntKind.i64.wrap (q.length : Int) = (q.length : Int) := IntWalk.i64_in _ (by omega)
        have hq1 : (q.length : Int) < (q.length : Int) + 1 := by omega
        have x1 := HX4.out.c1
        have HQ := Lib.hid hq
        clear hq
        cases hr : p.rcv with
        | false =>
          rw [hr] at p5 HLR
          have HRC := Lib.hid hr
          clear hr
          have x0 := HX4.out.c0
          have x1 := HX4.out.c1
          have x2 := HX4.out.c2
          have x3 := HX4.out.c3
          have x4 := HX4.out.c4
          have x5 := HX4.out.c5
          have HST := Lib.hid (show goStep s fs f = .go (stFr s fs) [tl3 3 f.id 0] from by
            unfold goStep
            rw [if_pos HD.out]
            simp [H0.out, HPH.out, HM.out, HLR.out])
          have HK := Lib.hid ((go_keeps HBD.out HGV.out HF.out).2.1 _ _ HST.out)
          go_wp2_with fail
          refine Calls.mono (HIH.out FB (some ⟨Q, 0, none⟩) fs.length fc1 (q.length + 1) pc1 (stFr s fs) (fun b => w.heap.size + 3 ≤ b ∧ b < T) w4 HK.out.2.2 HK.out.1 HK.out.2.1 HS4.out (by intro b hb; have := HTZ.out; omega)) ?_
          rintro e w9 ⟨r, ts, fv, pv, tv, hgo, rfl, hS9, hT9, hb9⟩
          obtain ⟨A5, c5, ds5, e5, h5⟩ := hS9.fr
          obtain ⟨A6, c6, e6, h6⟩ := hS9.pn
          obtain ⟨A7, c7, e7, h7⟩ := hT9
          subst e5 e6 e7
          have HGO := Lib.hid hgo
          have HT9 := Lib.hid (show TLm w9 (fun b => w4.heap.size ≤ b ∧ b < w9.heap.size) (.slice A7 ts.length c7) ts from ⟨_, _, rfl, h7⟩)
          have HS9 := Lib.hid hS9
          have HB9 := Lib.hid hb9
          have HX9 := Lib.hid (SB.to HX4.out (hb9.block _ HX4.out.lt))
          clear hgo hS9 hb9 h5 h6 h7
          clear x0 x1 x2 x3 x4 x5
          have x0 := HX9.out.c0
          have x1 := HX9.out.c1
          have x2 := HX9.out.c2
          have x3 := HX9.out.c3
          have x4 := HX9.out.c4
          have x5 := HX9.out.c5
          have z0 := HX9.out.z 0
          have z1 := HX9.out.z 1
          have z2 := HX9.out.z 2
          have z3 := HX9.out.z 3
          have z4 := HX9.out.z 4
          have z5 := HX9.out.z 5
          go_wp2_with fail
          obtain ⟨wz, hwz, bz, kz, lz, sz⟩ := six_at (w := w9) (g := w.heap.size) (.slice A5 r.fr.length c5) (.slice A6 r.pn.length c6) (.int .i64 (r.next : Int)) (.int .i64 (r.ser : Int)) (.int .i64 r.en) (.int .i64 r.st) HX9.out
          rw [← hwz]
          go_meet
          case rel => exact MidP.mk' (s := s) (W := w4) (w' := w9) (M' := fun b => w.heap.size + 3 ≤ b ∧ b < T) (.step HF.out HST.out HGO.out) (go_few HGO.out HK.out.1 HK.out.2.1) HS9.out (fun b hb => by have := HTZ.out; omega) HT9.out HTZ.out HB4.out HB9.out HT4.out HR4.out bz kz lz sz
        | true =>
          rw [hr] at p5 HLR
          have HRC := Lib.hid hr
          clear hr
          have HST0 := Lib.hid (show goStep s fs f = .go (stFr (stPn s (dropP s.pn)) (setPh fs 1)) [tl3 3 f.id 0] from by
            unfold goStep
            rw [if_pos HD.out]
            simp [H0.out, HPH.out, HM.out, HLR.out])
          have HK0 := Lib.hid ((go_keeps HBD.out HGV.out HF.out).2.1 _ _ HST0.out)
          have HNX := Lib.hid (show Q ≠ w.heap.size ∧ Q ≠ w.heap.size + 1 ∧ Q ≠ T from ⟨by omega, by omega, by have := (HPB.out Q rfl).2; omega⟩)
          go_wp2_with fail
          refine Calls.mono (without_any (some ⟨Q, 0, none⟩) (q.length + 1) pc1 s.pn w4 (Rd.of_own HP4.out) HNP.out.symm (by omega) (by omega) hn1) ?_
          rintro e w5 ⟨rfl, hrd, hdl, hb5⟩
          rw [HNP.out] at hdl
          have HX5 := Lib.hid (SB.to HX4.out (hb5.block _ HX4.out.lt))
          have HR5 := Lib.hid (SB.to HR4.out (hb5.block _ HR4.out.lt))
          have HT5 := Lib.hid ((hb5.block T HTZ.out.2).trans HT4.out)
          have HB5 := Lib.hid (HB4.out.trans (hb5.mono HB4.out.size))
          have HS5 := Lib.hid (HS4.out.keep fun p hp => hb5.cell (by have := hp.2; have := HTZ.out; omega))
          have HRD := Lib.hid hrd
          have HZ5 := Lib.hid (show T < w5.heap.size by have := hb5.size; have := HTZ.out; omega)
          clear hrd hb5 x1 p5
          have x1 := HX5.out.c1
          have z1 := HX5.out.z 1
          go_upto_region 36 with (fail)
          have HX6 := Lib.hid (show SB (w5.setCell ⟨w.heap.size, 1, none⟩ (.slice (some ⟨Q, 0, none⟩) (dropP s.pn).length pc1)) w.heap.size (.slice FB fs.length fc1) (.slice (some ⟨Q, 0, none⟩) (dropP s.pn).length pc1) (stPn (stFr s fs) (dropP s.pn)) from heap_setN HX5.out _)
          have HR6 := Lib.hid (SB.to HR5.out (sc_keep (w := w5) (g := w.heap.size) (j := 1) (v := .slice (some ⟨Q, 0, none⟩) (dropP s.pn).length pc1) (by omega)))
          have HT6 := Lib.hid ((sc_keep (w := w5) (g := w.heap.size) (j := 1) (v := .slice (some ⟨Q, 0, none⟩) (dropP s.pn).length pc1) (k := T) (by have := HTZ.out; omega)).trans HT5.out)
          have HB6 := Lib.hid (HB5.out.setCell (p := ⟨w.heap.size, 1, none⟩) (Nat.le_refl _) (.slice (some ⟨Q, 0, none⟩) (dropP s.pn).length pc1))
          have HZ6 := Lib.hid (show T < (w5.setCell ⟨w.heap.size, 1, none⟩ (.slice (some ⟨Q, 0, none⟩) (dropP s.pn).length pc1)).heap.size by simpa using HZ5.out)
          have HS6 := Lib.hid (show STr (w5.setCell ⟨w.heap.size, 1, none⟩ (.slice (some ⟨Q, 0, none⟩) (dropP s.pn).length pc1)) (w5.setCell ⟨w.heap.size, 1, none⟩ (.slice (some ⟨Q, 0, none⟩) (dropP s.pn).length pc1)).heap.size (.slice FB fs.length fc1) (.slice (some ⟨Q, 0, none⟩) (dropP s.pn).length pc1) (stPn (stFr s fs) (dropP s.pn)) from by
            refine ⟨((HS5.out.keep fun p hp => World.cell?_of_block (sc_keep (w := w5) (g := w.heap.size) (j := 1) (v := .slice (some ⟨Q, 0, none⟩) (dropP s.pn).length pc1) (by have := hp.1; omega))).r (fun b hb => by have := HZ6.out; omega)).fr, _, _, rfl, by show (dropP s.pn).length ≤ pc1; omega, hn2, ?_⟩
            exact HRD.out.to (by simp) fun a ha => by
              injection ha with ha
              subst ha
              exact sc_keep HNX.out.1)
          clear HX5 HR5 HT5 HB5 HS5 HRD HZ5 x1 z1
          generalize w5.setCell ⟨w.heap.size, 1, none⟩ (.slice (some ⟨Q, 0, none⟩) (dropP s.pn).length pc1) = w6 at *
          have x0 := HX6.out.c0
          have x1 := HX6.out.c1
          have x2 := HX6.out.c2
          have x3 := HX6.out.c3
          have x4 := HX6.out.c4
          have x5 := HX6.out.c5
          go_wp2_with fail
          refine Calls.mono (phased_any FB (some ⟨Q, 0, none⟩) fs.length fc1 (dropP s.pn).length pc1 (stPn (stFr s fs) (dropP s.pn)) 1 w6 HS6.out H0.out HK0.out.1.ok (by omega) (by omega) (fun g hg => Nat.le_trans (HBD.out.ds g (by rw [HF.out]; exact List.mem_append_left _ hg)).1 hb0)) ?_
          rintro e w7 ⟨fv, pv, ds7, he, hfo, hpo, hb7⟩
          have hfo7 : FrO w7 w6.heap.size fv (setPh fs 1) ds7 := hfo
          have hpo7 : w7.ownsRow w6.heap.size 99 7 pv (dropP s.pn).length (pnL (dropP s.pn)) := hpo
          have he7 : e = .returned (stV fv pv (stFr (stPn s (dropP s.pn)) (setPh fs 1))) := he
          clear he hfo hpo
          subst he7
          obtain ⟨FC, fc7, rfl⟩ := own_form hfo7.row
          obtain ⟨PC, pc7, rfl⟩ := own_form hpo7
          have HX7 := Lib.hid (SB.to HX6.out (hb7.block _ HX6.out.lt))
          have HR7 := Lib.hid (SB.to HR6.out (hb7.block _ HR6.out.lt))
          have HT7 := Lib.hid ((hb7.block T HZ6.out).trans HT6.out)
          have HB7 := Lib.hid (HB6.out.trans (hb7.mono HB6.out.size))
          have HS7 := Lib.hid (show STm w7 (fun b => w6.heap.size ≤ b ∧ b < w7.heap.size) (.slice FC (setPh fs 1).length fc7) (.slice PC (dropP s.pn).length pc7) (stFr (stPn s (dropP s.pn)) (setPh fs 1)) from STm.of hfo7 hpo7)
          have h67 := hb7.size
          clear hfo7 hpo7 hb7
          clear x0 x1 x2 x3 x4 x5
          have x0 := HX7.out.c0
          have x1 := HX7.out.c1
          have x2 := HX7.out.c2
          have x3 := HX7.out.c3
          have x4 := HX7.out.c4
          have x5 := HX7.out.c5
          have z0 := HX7.out.z 0
          have z1 := HX7.out.z 1
          have z2 := HX7.out.z 2
          have z3 := HX7.out.z 3
          have z4 := HX7.out.z 4
          have z5 := HX7.out.z 5
          go_upto_region 37 with (fail)
          obtain ⟨w8, hw8, b8, k8, l8, s8⟩ := six_at (w := w7) (g := w.heap.size) (.slice FC (setPh fs 1).length fc7) (.slice PC (dropP s.pn).length pc7) (.int .i64 ((stFr (stPn s (dropP s.pn)) (setPh fs 1)).next : Int)) (.int .i64 ((stFr (stPn s (dropP s.pn)) (setPh fs 1)).ser : Int)) (.int .i64 (stFr (stPn s (dropP s.pn)) (setPh fs 1)).en) (.int .i64 (stFr (stPn s (dropP s.pn)) (setPh fs 1)).st) HX7.out
          rw [← hw8]
          have HX8 := Lib.hid (show SB w8 w.heap.size (.slice FC (setPh fs 1).length fc7) (.slice PC (dropP s.pn).length pc7) (stFr (stPn s (dropP s.pn)) (setPh fs 1)) from b8)
          have HR8 := Lib.hid (SB.to HR7.out (k8 _ (by omega)))
          have HT8 := Lib.hid ((k8 T (by have := HTZ.out; omega)).trans HT7.out)
          have HB8 := Lib.hid (l8 w.heap.size (Nat.le_refl _) w HB7.out)
          have HS8 := Lib.hid ((HS7.out.keep (w' := w8) fun p hp => World.cell?_of_block (k8 p.block (by have := hp.1; have := HZ6.out; have := HTZ.out; omega))).more (M' := fun b => w6.heap.size ≤ b ∧ b < w8.heap.size) fun b hb => by rw [s8]; exact hb)
          have HTW := Lib.hid (show w.heap.size + 3 ≤ T ∧ T < w8.heap.size from ⟨HTZ.out.1, Nat.lt_of_lt_of_le HZ6.out (by rw [s8]; have := HX7.out.lt; exact (by assumption : w6.heap.size ≤ w7.heap.size))⟩)
          clear HX7 HR7 HT7 HB7 HS7 b8 k8 l8 s8 hw8
          clear x0 x1 x2 x3 x4 x5
          clear z0 z1 z2 z3 z4 z5
          have x0 := HX8.out.c0
          have x1 := HX8.out.c1
          have x2 := HX8.out.c2
          have x3 := HX8.out.c3
          have x4 := HX8.out.c4
          have x5 := HX8.out.c5
          have HST := Lib.hid (show goStep s fs f = .go (stFr (stPn s (dropP s.pn)) (setPh fs 1)) [tl3 3 f.id 0] from by
            unfold goStep
            rw [if_pos HD.out]
            simp [H0.out, HPH.out, HM.out, HLR.out])
          have HK := Lib.hid ((go_keeps HBD.out HGV.out HF.out).2.1 _ _ HST.out)
          go_wp2_with fail
          refine Calls.mono (HIH.out FC PC (setPh fs 1).length fc7 (dropP s.pn).length pc7 (stFr (stPn s (dropP s.pn)) (setPh fs 1)) (fun b => w6.heap.size ≤ b ∧ b < w8.heap.size) w8 HK.out.2.2 HK.out.1 HK.out.2.1 HS8.out (by intro b hb; have := HTZ.out; omega)) ?_
          rintro e w9 ⟨r, ts, fv, pv, tv, hgo, rfl, hS9, hT9, hb9⟩
          obtain ⟨A5, c5, ds5, e5, h5⟩ := hS9.fr
          obtain ⟨A6, c6, e6, h6⟩ := hS9.pn
          obtain ⟨A7, c7, e7, h7⟩ := hT9
          subst e5 e6 e7
          have HGO := Lib.hid hgo
          have HT9 := Lib.hid (show TLm w9 (fun b => w8.heap.size ≤ b ∧ b < w9.heap.size) (.slice A7 ts.length c7) ts from ⟨_, _, rfl, h7⟩)
          have HS9 := Lib.hid hS9
          have HB9 := Lib.hid hb9
          have HX9 := Lib.hid (SB.to HX8.out (hb9.block _ HX8.out.lt))
          clear hgo hS9 hb9 h5 h6 h7
          clear x0 x1 x2 x3 x4 x5
          have x0 := HX9.out.c0
          have x1 := HX9.out.c1
          have x2 := HX9.out.c2
          have x3 := HX9.out.c3
          have x4 := HX9.out.c4
          have x5 := HX9.out.c5
          have z0 := HX9.out.z 0
          have z1 := HX9.out.z 1
          have z2 := HX9.out.z 2
          have z3 := HX9.out.z 3
          have z4 := HX9.out.z 4
          have z5 := HX9.out.z 5
          go_wp2_with fail
          obtain ⟨wz, hwz, bz, kz, lz, sz⟩ := six_at (w := w9) (g := w.heap.size) (.slice A5 r.fr.length c5) (.slice A6 r.pn.length c6) (.int .i64 (r.next : Int)) (.int .i64 (r.ser : Int)) (.int .i64 r.en) (.int .i64 r.st) HX9.out
          rw [← hwz]
          go_meet
          case rel => exact MidP.mk' (s := s) (W := w8) (w' := w9) (M' := fun b => w6.heap.size ≤ b ∧ b < w8.heap.size) (.step HF.out HST.out HGO.out) (go_few HGO.out HK.out.1 HK.out.2.1) HS9.out (fun b hb => by have := HTZ.out; have := HZ6.out; omega) HT9.out HTW.out HB8.out HB9.out HT8.out HR8.out bz kz lz sz
    case rest =>
      obtain ⟨r, ts, fv, pv, hm⟩ := hcut
      obtain ⟨A5, c5, ds5, e5, _⟩ := hm.st.fr
      obtain ⟨A6, c6, e6, _⟩ := hm.st.pn
      obtain ⟨A7, c7, e7, h7a, h7b, h7r⟩ := hm.tl
      subst e5 e6 e7
      have HMC := Lib.hid hm
      have HRT := Lib.hid (show Rd wc.drew wc.heap.size 7 A7 ts.length (tlL ts) from h7r.rd fun b hb => hb.1.2)
      have hml : ts.length ≤ 100 := hm.few
      have HOC := Lib.hid (show ∀ u ∈ tlL ts, u.oneCell' = true from fun u hu => by
        obtain ⟨c, hc, hu⟩ := List.mem_flatten.1 hu
        obtain ⟨q, _, rfl⟩ := List.mem_map.1 hc
        simp [tlC] at hu
        rcases hu with rfl | rfl | rfl | rfl | rfl | rfl | rfl <;> rfl)
      have HTO := Lib.hid (show wc.drew.ownsRow (w.heap.size + 2) 96 7 (.slice (some ⟨T, 0, none⟩) 1 1) 1 (tlC (tl3 3 f.id 0)) from own_new hm.tb (by have := HTZ.out; omega) rfl)
      have HSZ := Lib.hid (show w.heap.size + 2 ≤ wc.heap.size from by have := hm.rb.lt; omega)
      have HGX := Lib.hid (fun (w8 : World) (hg : wc.drew.grownBy w8 (Value.slice (some ⟨T, 0, none⟩) 1 1).ownBlock) => show SB w8 w.heap.size (.slice A5 r.fr.length c5) (.slice A6 r.pn.length c6) r ∧ SB w8 (w.heap.size + 1) (.slice none 0 0) (.slice none 0 0) zeroST from
        ⟨(hg.block w.heap.size hm.x.lt (by have := HTZ.out; intro e; injection e with e; have e' : _ = T := e; omega)).trans hm.x, (hg.block (w.heap.size + 1) hm.rb.lt (by have := HTZ.out; intro e; injection e with e; have e' : _ = T := e; omega)).trans hm.rb⟩)
      clear h7r hm
      obtain ⟨t0, ht, tz0, tz1, tz2⟩ := info_parts info_tell
      have x0 := HMC.out.x.c0
      have x1 := HMC.out.x.c1
      have x2 := HMC.out.x.c2
      have x3 := HMC.out.x.c3
      have x4 := HMC.out.x.c4
      have x5 := HMC.out.x.c5
      have xz := HMC.out.x.lt
      have HT0 := Lib.hid ht
      have HT1 := Lib.hid tz0
      have HT2 := Lib.hid tz1
      have HT3 := Lib.hid tz2
      clear ht tz0 tz1 tz2
      go_wp2_with fail
      go_region_law (first
        | (refine step_append_flat rfl (.tmp 182) (.tmp 183) 57 rfl (w.heap.size + 2) 96 t0 _ 7 80 Try.underlying57 HT0.out HT1.out HT2.out HT3.out rfl (by omega) (.slice (some ⟨T, 0, none⟩) 1 1) 1 (tlC (tl3 3 f.id 0)) rfl HTO.out wc.heap.size A7 ts.length c7 (tlL ts) rfl HRT.out HOC.out (by unfold maxLen; omega) (by omega) HSZ.out ?_; intro A8 c8 w8 hown8 hgrow8; have HO8 := Lib.hid hown8; have HG8 := Lib.hid hgrow8; have HX8 := Lib.hid (HGX.out _ hgrow8); have x80 := HX8.out.1.c0; have x81 := HX8.out.1.c1; have x82 := HX8.out.1.c2; have x83 := HX8.out.1.c3; have x84 := HX8.out.1.c4; have x85 := HX8.out.1.c5; have r80 := HX8.out.2.c0; have r81 := HX8.out.2.c1; have r82 := HX8.out.2.c2; have r83 := HX8.out.2.c3; have r84 := HX8.out.2.c4; have r85 := HX8.out.2.c5; have v80 := HX8.out.2.z 0; have v81 := HX8.out.2.z 1; have v82 := HX8.out.2.z 2; have v83 := HX8.out.2.z 3; have v84 := HX8.out.2.z 4; have v85 := HX8.out.2.z 5; have xz8 := HX8.out.1.lt; have rz8 := HX8.out.2.lt; clear hown8 hgrow8)
        | fail "no")
      all_goals (
        go_wp2_with fail
        obtain ⟨w9, hw9, b9, k9, l9, s9⟩ := six_at (w := w8) (g := w.heap.size + 1) (.slice A5 r.fr.length c5) (.slice A6 r.pn.length c6) (.int .i64 (r.next : Int)) (.int .i64 (r.ser : Int)) (.int .i64 r.en) (.int .i64 r.st) HX8.out.2
        rw [← hw9]
        have HE := Lib.hid (go_end (M := M) HMC.out HTZ.out.1 HO8.out ⟨HG8.out.os, HG8.out.tape, HG8.out.output, HG8.out.size, HG8.out.block⟩ k9 l9 s9)
        have hR9 : SB w9 (w.heap.size + 1) (.slice A5 r.fr.length c5) (.slice A6 r.pn.length c6) r := b9
        clear x80 x81 x82 x83 x84 x85 r80 r81 r82 r83 r84 r85 v80 v81 v82 v83 v84 v85 hw9 k9 l9 s9 b9
        have r0 := hR9.c0
        have r1 := hR9.c1
        have r2 := hR9.c2
        have r3 := hR9.c3
        have r4 := hR9.c4
        have r5 := hR9.c5
        clear hR9
        refine bodyPost_ret (v := .tuple #[stV (.slice A5 r.fr.length c5) (.slice A6 r.pn.length c6) r, .slice A8 (1 + ts.length) c8]) (by simp [results, Try.results50, go_sem, r0, r1, r2, r3, r4, r5]) rfl ?_
        exact HE.out)
end
end Go.Proofs.Ytapofohbngkekaa
