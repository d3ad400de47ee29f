/- The document's StepState. Conditions: the state is one that is come to. -/
import Derived.Test.YtapofohbngkekaaPoS
set_option maxRecDepth 100000
namespace Go.Proofs.Ytapofohbngkekaa
open Go.ChangeShapes Go.WideShapes Go.ChangeAt Go.RowKit
theorem merge4 {α β γ δ : Type} {F : α → β → γ → δ → Prop} {G : α → β → γ → δ → Prop} {goal : Prop} (main : (∀ a b c d, F a b c d → G a b c d) → goal) (later : ∀ a b c d, F a b c d → G a b c d) : goal := main later
section
variable (FA PA : Option Addr) (nf fc np pc k : Nat) (s : ST) (v : EV) (A : Option Addr) (len cap : Nat) (w : World) (hs : STr w w.heap.size (.slice FA nf fc) (.slice PA np pc) s) (hi : Inv k s) (hk : k ≤ 50000) (he : s.en = 0)
include hs hi hk he
set_option maxHeartbeats 16000000 in
theorem step_panic (h1 : v.kind = 4) : Calls Try.prog 22 #[stV (.slice FA nf fc) (.slice PA np pc) s, evA v A len cap] w (SpP s v w) := by
  obtain ⟨ek, en, vk, vn, vs⟩ := v
  simp only at h1
  subst h1
  have hlv := hi.2 he
  obtain ⟨fs, f, hf, hph⟩ := hlv.top
  obtain ⟨⟨FA', fc', dso, e1, _, _, _⟩, ⟨PA', pc', e2, _, _, _⟩⟩ := id hs
  injection e1 with e1 e3 e4
  injection e2 with e2 e5 e6
  subst e1 e3 e4 e2 e5 e6
  have hfl : s.fr.length = fs.length + 1 := by rw [hf]; simp
  have hf30 : fs.length + 1 ≤ 30 := by rw [← hfl]; exact hi.1.fr
  have hp2 := hi.1.pn
  have HOK := Lib.hid (show ∀ p ∈ s.pn, PnOk p from hi.1.ok)
  obtain ⟨np, hnp⟩ : ∃ n, s.pn.length = n := ⟨_, rfl⟩
  rw [hfl] at hs ⊢
  rw [hnp] at hp2 hs ⊢
  have HS := Lib.hid hs
  have HIN := Lib.hid hi
  have HF := Lib.hid hf
  have HNP := Lib.hid hnp
  have HLV := Lib.hid hlv
  have HPH := Lib.hid hph
  have H0 := Lib.hid he
  have b1 : (s.en != 0) = false := by rw [he]; rfl
  have b2 : (((fs.length : Int) + 1) == 0) = false := by rw [beq_eq_false_iff_ne]; omega
  clear hs hi hnp hlv he hf hph hfl
  go_enter Try.func22, Try.ntmps22
  go_upto_region 3 with (fail)
  have HW := Lib.hid (boxesE w FA PA (fs.length + 1) fc np pc s ⟨4, en, vk, vn, vs⟩ A len cap)
  simp only [evC] at HW
  generalize ((w.alloc (.cells #[.slice FA (fs.length + 1) fc, .slice PA np pc, .int .i64 (s.next : Int), .int .i64 (s.ser : Int), .int .i64 s.en, .int .i64 s.st] 56)).alloc (.cells #[.int .i64 4, .int .i64 en, .int .i64 vk, .int .i64 vn, .string vs, .slice A len cap] 51)).alloc (.cells #[.slice none 0 0, .slice none 0 0, .int .i64 0, .int .i64 0, .int .i64 0, .int .i64 0] 56) = wa at *
  have HX := Lib.hid HW.out.1
  have HE := Lib.hid HW.out.2.1
  have HR := Lib.hid HW.out.2.2.1
  have HBA := Lib.hid HW.out.2.2.2.1
  have HZA := Lib.hid HW.out.2.2.2.2
  clear HW
  have x0 := HX.out.c0
  have x1 := HX.out.c1
  have x2 := HX.out.c2
  have x3 := HX.out.c3
  have x4 := HX.out.c4
  have x5 := HX.out.c5
  go_wp2_with fail
  refine Calls.mono (copyState_any FA PA (fs.length + 1) fc np pc s wa ((HS.out.into HBA.out).more (by have := HZA.out; omega)) HOK.out (by omega) (by omega) (fun g hg => by have := (HIN.out.1.ds g hg).1; omega)) ?_
  rintro e w1 ⟨fv, pv, ds, rfl, hfo, hpo, hb1⟩
  obtain ⟨PB, pc1, rfl⟩ := own_form hpo
  have HX1 := Lib.hid (SB.to HX.out (hb1.block _ HX.out.lt))
  have HE1 := Lib.hid ((hb1.block (w.heap.size + 1) (by have := HZA.out; omega)).trans HE.out)
  have HR1 := Lib.hid (SB.to HR.out (hb1.block _ HR.out.lt))
  have HB1 := Lib.hid (sq HBA.out hb1)
  have HZ1 := Lib.hid (show w.heap.size + 3 ≤ w1.heap.size by have := hb1.size; have := HZA.out; omega)
  rw [HZA.out] at hfo hpo
  rw [HNP.out] at hpo
  rw [HF.out] at hfo
  obtain ⟨F, fc1, es, d, rfl, hel, rfl, hF, hFz, hfc1, hfc2, ht⟩ := hfo.top
  have hdr := hfo.dr fs.length f d (by simp) (by rw [← hel]; simp)
  obtain ⟨m, hm⟩ : ∃ m, f.ds.length = m := ⟨_, rfl⟩
  have hm2 : m ≤ 50000 := by have := (HIN.out.1.ds f (by rw [HF.out]; simp)).1; omega
  rw [hm] at hdr
  obtain ⟨DA, dc, rfl⟩ := own_form hdr
  have HM := Lib.hid hm
  have HEL := Lib.hid hel
  have HFO := Lib.hid hfo
  have HPO := Lib.hid hpo
  rw [HNP.out]
  clear hb1 hfo hpo HX HR HE HBA HZA x0 x1 x2 x3 x4 x5 ht hdr hm hel hF hFz
  have x0 := HX1.out.c0
  have x1 := HX1.out.c1
  have x2 := HX1.out.c2
  have x3 := HX1.out.c3
  have x4 := HX1.out.c4
  have x5 := HX1.out.c5
  have z0 := HX1.out.z 0
  have z1 := HX1.out.z 1
  have z2 := HX1.out.z 2
  have z3 := HX1.out.z 3
  have z4 := HX1.out.z 4
  have z5 := HX1.out.z 5
  go_upto_region 4 with (fail)
  obtain ⟨w2, hw2, bx2, k2, l2, s2⟩ := six_at (w := w1) (g := w.heap.size) (.slice (some ⟨F, 0, none⟩) (fs.length + 1) fc1) (.slice PB np pc1) (.int .i64 (s.next : Int)) (.int .i64 (s.ser : Int)) (.int .i64 s.en) (.int .i64 s.st) HX1.out
  rw [← hw2]
  have HX2 := Lib.hid (show SB w2 w.heap.size (.slice (some ⟨F, 0, none⟩) (fs.length + 1) fc1) (.slice PB np pc1) s from bx2)
  have HE2 := Lib.hid ((k2 (w.heap.size + 1) (by omega)).trans HE1.out)
  have HR2 := Lib.hid (SB.to HR1.out (k2 _ (by omega)))
  have HB2 := Lib.hid (l2 w.heap.size (Nat.le_refl _) w HB1.out)
  have HZ2 := Lib.hid (show w.heap.size + 3 ≤ w2.heap.size by rw [s2]; exact HZ1.out)
  have HF2 := Lib.hid (show FrO w2 (w.heap.size + 3) (.slice (some ⟨F, 0, none⟩) (fs.length + 1) fc1) (fs ++ [f]) (es ++ [.slice DA m dc]) from HFO.out.stay fun b cs t hb ht => k2 b (fun e => by
    rw [e, HX1.out] at hb
    injection hb with hb
    injection hb with _ hb
    subst hb
    rcases ht with ht | ht <;> exact absurd ht (by decide)))
  have HP2 := Lib.hid (own_stay (w' := w2) HPO.out fun b hb => k2 b (fun e => by have := (HPO.out.lt b hb).1; omega))
  clear hw2 bx2 k2 l2 s2 HX1 HE1 HR1 HB1 HZ1 HFO HPO
  clear x0 x1 x2 x3 x4 x5
  clear z0 z1 z2 z3 z4 z5
  have ht9 := HF2.out.top
  obtain ⟨F9, c9, es9, d9, e9, hel9, e8, hF, hFz, _, _, ht⟩ := ht9
  injection e8 with e8 e8n e7
  injection e8 with e8
  injection e8 with e8 e8o e8p
  clear e8n e8o e8p
  subst e8 e7
  obtain ⟨e6, rfl⟩ := snoc_inj e9
  clear e9 hel9 e6
  have t0 := ht.c0
  have t1 := ht.c1
  have t2 := ht.c2
  have t3 := ht.c3
  have t4 := ht.c4
  clear ht
  have x0 := HX2.out.c0
  have hwf : IntKind.i64.wrap (fs.length : Int) = (fs.length : Int) := IntWalk.i64_in _ (by omega)
  have hF1 : (fs.length : Int) < (fs.length : Int) + 1 := by omega
  have e0 : w2.cell? ⟨w.heap.size + 1, 0, none⟩ = some (.int .i64 4) := by rw [Lib.cell_of_heap HE2.out]; rfl
  have ez : w.heap.size + 1 < w2.heap.size := by have := HZ2.out; omega
  have hxz := HX2.out.lt
  go_upto_region 5 with (fail)
  have HX3 := Lib.hid (SB.to HX2.out (Lib.alloc_old w2 (.cells #[.int .i64 f.id, .int .i64 f.mark, .int .i64 f.pan, .int .i64 f.ph, .slice DA m dc] 93) _ HX2.out.lt))
  have HE3 := Lib.hid ((Lib.alloc_old w2 (.cells #[.int .i64 f.id, .int .i64 f.mark, .int .i64 f.pan, .int .i64 f.ph, .slice DA m dc] 93) (w.heap.size + 1) ez).trans HE2.out)
  have HR3 := Lib.hid (SB.to HR2.out (Lib.alloc_old w2 (.cells #[.int .i64 f.id, .int .i64 f.mark, .int .i64 f.pan, .int .i64 f.ph, .slice DA m dc] 93) _ HR2.out.lt))
  have HB3 := Lib.hid (HB2.out.alloc (by have := HZ2.out; omega) (.cells #[.int .i64 f.id, .int .i64 f.mark, .int .i64 f.pan, .int .i64 f.ph, .slice DA m dc] 93))
  have HY3 := Lib.hid (show (w2.alloc (.cells #[.int .i64 f.id, .int .i64 f.mark, .int .i64 f.pan, .int .i64 f.ph, .slice DA m dc] 93)).heap[w2.heap.size]? = some (.cells #[.int .i64 f.id, .int .i64 f.mark, .int .i64 f.pan, .int .i64 f.ph, .slice DA m dc] 93 (0, 0)) from heap_alloc_new w2 _)
  have HF3 := Lib.hid (show FrO (w2.alloc (.cells #[.int .i64 f.id, .int .i64 f.mark, .int .i64 f.pan, .int .i64 f.ph, .slice DA m dc] 93)) (w.heap.size + 3) (.slice (some ⟨F, 0, none⟩) (fs.length + 1) fc1) (fs ++ [f]) (es ++ [.slice DA m dc]) from HF2.out.stay fun b cs t hb _ => Lib.alloc_old _ _ _ (Array.getElem?_eq_some_iff.1 hb).1)
  have HP3 := Lib.hid (own_below HP2.out (al (w := w2) (.cells #[.int .i64 f.id, .int .i64 f.mark, .int .i64 f.pan, .int .i64 f.ph, .slice DA m dc] 93)))
  have HYL := Lib.hid (show w.heap.size + 3 ≤ w2.heap.size ∧ w2.heap.size < (w2.alloc (.cells #[.int .i64 f.id, .int .i64 f.mark, .int .i64 f.pan, .int .i64 f.ph, .slice DA m dc] 93)).heap.size ∧ F < w2.heap.size ∧ w.heap.size + 3 ≤ F ∧ (∀ b, (Value.slice DA m dc).ownBlock = some b → b < w2.heap.size) ∧ (∀ b, (Value.slice PB np pc1).ownBlock = some b → b < w2.heap.size) from ⟨HZ2.out, by simp, hFz, hF, fun b hb => ((HF2.out.dr fs.length f (.slice DA m dc) (by simp) (by rw [← HEL.out]; simp)).lt b hb).2, fun b hb => (HP2.out.lt b hb).2⟩)
  clear x0 t0 t1 t2 t3 t4 e0 ez hxz HX2 HE2 HR2 HB2 HZ2 HF2 HP2 hF hFz
  generalize w2.alloc (.cells #[.int .i64 f.id, .int .i64 f.mark, .int .i64 f.pan, .int .i64 f.ph, .slice DA m dc] 93) = w3 at *
  generalize w2.heap.size = Y at *
  have HS3 := Lib.hid (show STm w3 (fun b => w.heap.size + 3 ≤ b ∧ b < w3.heap.size) (.slice (some ⟨F, 0, none⟩) (fs.length + 1) fc1) (.slice PB np pc1) s from by
    have h1 : FrO w3 (w.heap.size + 3) (.slice (some ⟨F, 0, none⟩) (fs.length + 1) fc1) s.fr (es ++ [.slice DA m dc]) := by rw [HF.out]; exact HF3.out
    exact STm.of h1 (by rw [HNP.out]; exact HP3.out))
  have HNF := Lib.hid (show fs.length + 1 = s.fr.length by rw [HF.out]; simp)
  have e0 : w3.cell? ⟨w.heap.size + 1, 0, none⟩ = some (.int .i64 4) := by rw [Lib.cell_of_heap HE3.out]; rfl
  have e1 : w3.cell? ⟨w.heap.size + 1, 1, none⟩ = some (.int .i64 en) := by rw [Lib.cell_of_heap HE3.out]; rfl
  have ez : w.heap.size + 1 < w3.heap.size := by have := HYL.out; omega
  have e2 : w3.cell? ⟨w.heap.size + 1, 2, none⟩ = some (.int .i64 vk) := by rw [Lib.cell_of_heap HE3.out]; rfl
  have e3 : w3.cell? ⟨w.heap.size + 1, 3, none⟩ = some (.int .i64 vn) := by rw [Lib.cell_of_heap HE3.out]; rfl
  have e4 : w3.cell? ⟨w.heap.size + 1, 4, none⟩ = some (.string vs) := by rw [Lib.cell_of_heap HE3.out]; rfl
  have e5 : w3.cell? ⟨w.heap.size + 1, 5, none⟩ = some (.slice A len cap) := by rw [Lib.cell_of_heap HE3.out]; rfl
  have HKE := Lib.hid (ev_keeps (e := ⟨4, en, vk, vn, vs⟩) HIN.out.1 HLV.out HF.out).2
  by_cases hmay : mayK vk
  · have b3 : mayB vk = true := may_iff.2 hmay
    have HEV := Lib.hid (show evV s fs f ⟨4, en, vk, vn, vs⟩ = .go (⟨fs ++ [phF f 2], s.pn ++ [newP s ⟨4, en, vk, vn, vs⟩], s.next, s.ser + 1, s.en, s.st⟩ : ST) [] from by
      unfold evV
      rw [if_neg (show ¬ (4 : Int) = 1 by decide), if_neg (show ¬ (4 : Int) = 2 by decide), if_neg (show ¬ (4 : Int) = 3 by decide), if_pos rfl, if_pos hmay])
    have HKE := Lib.hid (HKE.out _ _ HEV.out)
    have HMY := Lib.hid hmay
    clear hmay
    obtain ⟨j0, hj, jz0, jz1, jz2⟩ := info_parts info_pn
    have HJ0 := Lib.hid hj
    have HJ1 := Lib.hid jz0
    have HJ2 := Lib.hid jz1
    have HJ3 := Lib.hid jz2
    clear hj jz0 jz1 jz2
    go_wp2_with fail
    refine Calls.mono (refMay_any vk vn vs A len cap w3) ?_
    rintro e w4 ⟨rfl, hb4⟩
    have HX4 := Lib.hid (SB.to HX3.out (hb4.block _ HX3.out.lt))
    have HE4 := Lib.hid ((hb4.block (w.heap.size + 1) ez).trans HE3.out)
    have HR4 := Lib.hid (SB.to HR3.out (hb4.block _ HR3.out.lt))
    have HB4 := Lib.hid (HB3.out.trans (hb4.mono HB3.out.size))
    have HF4 := Lib.hid (show FrO w4 (w.heap.size + 3) (.slice (some ⟨F, 0, none⟩) (fs.length + 1) fc1) (fs ++ [f]) (es ++ [.slice DA m dc]) from HF3.out.stay fun b cs t hb _ => hb4.block b (Array.getElem?_eq_some_iff.1 hb).1)
    have HP4 := Lib.hid (own_below HP3.out hb4)
    have HZ4 := Lib.hid (show w.heap.size + 3 ≤ w4.heap.size by have := hb4.size; have := HYL.out; omega)
    clear hb4 e0 e1 e2 e3 e4 e5 ez HX3 HE3 HR3 HB3 HF3 HP3 HY3 HS3
    have x1 := HX4.out.c1
    have x3 := HX4.out.c3
    have e2 : w4.cell? ⟨w.heap.size + 1, 2, none⟩ = some (.int .i64 vk) := by rw [Lib.cell_of_heap HE4.out]; rfl
    have e3 : w4.cell? ⟨w.heap.size + 1, 3, none⟩ = some (.int .i64 vn) := by rw [Lib.cell_of_heap HE4.out]; rfl
    have e4 : w4.cell? ⟨w.heap.size + 1, 4, none⟩ = some (.string vs) := by rw [Lib.cell_of_heap HE4.out]; rfl
    have e5 : w4.cell? ⟨w.heap.size + 1, 5, none⟩ = some (.slice A len cap) := by rw [Lib.cell_of_heap HE4.out]; rfl
    have ez : w.heap.size + 1 < w4.heap.size := by have := HZ4.out; omega
    have xz := HX4.out.lt
    go_upto_region 21 with (fail)
    have HAP := Lib.hid (fun (w6 : World) (W : World) (hW : Below w4.heap.size w4 W) (hg : W.grownBy w6 (Value.slice PB np pc1).ownBlock) => show SB w6 w.heap.size (.slice (some ⟨F, 0, none⟩) (fs.length + 1) fc1) (.slice PB np pc1) s ∧ SB w6 (w.heap.size + 1 + 1) (.slice none 0 0) (.slice none 0 0) zeroST ∧ FrO w6 (w.heap.size + 3) (.slice (some ⟨F, 0, none⟩) (fs.length + 1) fc1) (fs ++ [f]) (es ++ [.slice DA m dc]) ∧ Below w.heap.size w w6 from by
      have hk : ∀ b, b < w4.heap.size → (Value.slice PB np pc1).ownBlock ≠ some b → w6.heap[b]? = w4.heap[b]? := fun b hb h1 => (hg.block b (Nat.lt_of_lt_of_le hb hW.size) (fun e => h1 e.symm)).trans (hW.block b hb)
      have hp0 : ∀ b, (Value.slice PB np pc1).ownBlock = some b → w.heap.size + 3 ≤ b := fun b hb => (HP4.out.lt b hb).1
      have hkt := KT.grow HP4.out hW hg
      refine ⟨(hk w.heap.size HX4.out.lt (fun e => by have := hp0 _ e; omega)).trans HX4.out, (hk (w.heap.size + 1 + 1) HR4.out.lt (fun e => by have := hp0 _ e; omega)).trans HR4.out, HF4.out.stay fun b cs t hb ht => hkt b cs t hb (by rcases ht with rfl | rfl <;> decide), ?_⟩
      exact (HB4.out.trans (hW.mono HB4.out.size)).grown hg (Nat.le_trans HB4.out.size hW.size) (fun q hq => by have := hp0 q hq; omega))
    refine merge4 (F := fun (g5 : Nat) (A6 : Option Addr) (c6 : Nat) (w7 : World) => (SB w7 w.heap.size (.slice (some ⟨F, 0, none⟩) (fs.length + 1) fc1) (.slice A6 (np + 1) c6) (⟨s.fr, s.pn ++ [newP s ⟨4, en, vk, vn, vs⟩], s.next, s.ser, s.en, s.st⟩ : ST) ∧ SB w7 (w.heap.size + 1 + 1) (.slice none 0 0) (.slice none 0 0) zeroST ∧ FrO w7 (w.heap.size + 3) (.slice (some ⟨F, 0, none⟩) (fs.length + 1) fc1) (fs ++ [f]) (es ++ [.slice DA m dc]) ∧ w7.ownsRow (w.heap.size + 3) 99 7 (.slice A6 (np + 1) c6) (np + 1) (pnL s.pn ++ pnC ⟨s.ser, vk, plNv vk vn, plSv vk vs, false, false⟩) ∧ Below w.heap.size w w7)) (G := ?G) (fun hk => ?main) ?later
    case main =>
      go_region_law (first
        | ((go_simp; (go_at_call 47); refine (refPlain_may vk vn vs A len cap _ HMY.out).mono ?_; rintro e w5 ⟨rfl, hb5⟩; have HB5 := Lib.hid (show Below w4.heap.size w4 w5 from ⟨hb5.os, hb5.tape, hb5.output, hb5.size, hb5.block⟩); have x15 := (HB5.out.cell (p := ⟨w.heap.size, 1, none⟩) xz).trans x1; have x35 := (HB5.out.cell (p := ⟨w.heap.size, 3, none⟩) xz).trans x3; have xz5 : w.heap.size < w5.heap.size := Nat.lt_of_lt_of_le xz HB5.out.size; clear hb5))
        | ((refine step_append_flat rfl (.tmp 99) (.tmp 106) 54 rfl (w.heap.size + 3) 99 j0 _ 7 72 Try.underlying54 HJ0.out HJ1.out HJ2.out HJ3.out rfl (by omega) (.slice PB np pc1) np (pnL s.pn) rfl (own_below (own_below HP4.out HB5.out) (by first | exact al _ | exact (al _).drew | exact ((Below.refl _ _).alloc (Nat.le_refl _) _))) _ _ 1 1 (pnC ⟨s.ser, vk, plNv vk vn, plSv vk vs, false, false⟩) rfl (Rd.one _ _ _ 7 rfl _ (by simp)) (by intro u hu; simp [pnC] at hu; rcases hu with rfl | rfl | rfl | rfl | rfl | rfl | rfl <;> rfl) (by unfold maxLen; omega) (by omega) (by have := HB5.out.size; have := HZ4.out; simp; omega) ?_; intro A6 c6 w6 hown6 hgrow6; have HO6 := Lib.hid hown6; have HA6 := Lib.hid (HAP.out _ _ (HB5.out.trans ((al _).mono HB5.out.size)) hgrow6); have x16 := HA6.out.1.c1; have z16 := HA6.out.1.z 1; have xz6 := HA6.out.1.lt; clear hown6 hgrow6))
        | fail "no")
      all_goals
        have hfx := And.intro (show SB (w6.setCell ⟨w.heap.size, 1, none⟩ (.slice A6 (np + 1) c6)) w.heap.size (.slice (some ⟨F, 0, none⟩) (fs.length + 1) fc1) (.slice A6 (np + 1) c6) (⟨s.fr, s.pn ++ [newP s ⟨4, en, vk, vn, vs⟩], s.next, s.ser, s.en, s.st⟩ : ST) from heap_setN HA6.out.1 _) (And.intro (SB.to HA6.out.2.1 (sc_keep (w := w6) (g := w.heap.size) (j := 1) (v := .slice A6 (np + 1) c6) (by omega))) (And.intro (HA6.out.2.2.1.setP (j := 1) (u := .slice A6 (np + 1) c6) HA6.out.1 (by decide) (by decide)) (And.intro (own_setP (j := 1) (u := .slice A6 (np + 1) c6) HO6.out HA6.out.1 (by decide)) (HA6.out.2.2.2.setCell (p := ⟨w.heap.size, 1, none⟩) (Nat.le_refl _) (.slice A6 (np + 1) c6)))))
        generalize w6.setCell ⟨w.heap.size, 1, none⟩ (.slice A6 (np + 1) c6) = w7 at *
        generalize w5.heap.size = g5 at *
        exact hk g5 A6 c6 w7 hfx
    case later =>
      intro g5 A6 c6 w7 hfx
      obtain ⟨hX7, hR7, hF7, hO7, hB7⟩ := hfx
      have HX7 := Lib.hid hX7
      have HR7 := Lib.hid hR7
      have HF7 := Lib.hid hF7
      have HO7 := Lib.hid hO7
      have HB7 := Lib.hid hB7
      clear hX7 hR7 hF7 hO7 hB7 x1 x3 e2 e3 e4 e5 ez xz
      have x3 := HX7.out.c3
      have z3 := HX7.out.z 3
      have hsb : s.ser ≤ 50000 := by have := HIN.out.1.ser; omega
      go_upto_region 23 with (fail)
      have HX8 := Lib.hid (show SB (w7.setCell ⟨w.heap.size, 3, none⟩ (.int .i64 ((s.ser : Int) + 1))) w.heap.size (.slice (some ⟨F, 0, none⟩) (fs.length + 1) fc1) (.slice A6 (np + 1) c6) (⟨s.fr, s.pn ++ [newP s ⟨4, en, vk, vn, vs⟩], s.next, s.ser + 1, s.en, s.st⟩ : ST) from heap_setN HX7.out _)
      have HR8 := Lib.hid (SB.to HR7.out (sc_keep (w := w7) (g := w.heap.size) (j := 3) (v := .int .i64 ((s.ser : Int) + 1)) (by omega)))
      have HF8 := Lib.hid (HF7.out.setP (j := 3) (u := .int .i64 ((s.ser : Int) + 1)) HX7.out (by decide) (by decide))
      have HO8 := Lib.hid (own_setP (j := 3) (u := .int .i64 ((s.ser : Int) + 1)) HO7.out HX7.out (by decide))
      have HB8 := Lib.hid (HB7.out.setCell (p := ⟨w.heap.size, 3, none⟩) (Nat.le_refl _) (.int .i64 ((s.ser : Int) + 1)))
      clear HX7 HR7 HF7 HO7 HB7 x3 z3
      generalize w7.setCell ⟨w.heap.size, 3, none⟩ (.int .i64 ((s.ser : Int) + 1)) = w8 at *
      have HZ8 := Lib.hid (show w.heap.size + 3 ≤ w8.heap.size by have := HR8.out.lt; omega)
      have hsl : (s.pn ++ [newP s ⟨4, en, vk, vn, vs⟩]).length = np + 1 := by rw [List.length_append, HNP.out]; rfl
      have HST8 := Lib.hid (show STr w8 w8.heap.size (.slice (some ⟨F, 0, none⟩) (fs.length + 1) fc1) (.slice A6 (np + 1) c6) (⟨s.fr, s.pn ++ [newP s ⟨4, en, vk, vn, vs⟩], s.next, s.ser + 1, s.en, s.st⟩ : ST) from STr.of (s := (⟨s.fr, s.pn ++ [newP s ⟨4, en, vk, vn, vs⟩], s.next, s.ser + 1, s.en, s.st⟩ : ST)) (by show FrO _ _ _ s.fr _; rw [HF.out]; exact HF8.out) (by
        show World.ownsRow _ (w.heap.size + 3) _ _ _ (s.pn ++ [newP s ⟨4, en, vk, vn, vs⟩]).length (pnL (s.pn ++ [newP s ⟨4, en, vk, vn, vs⟩]))
        rw [hsl, pnL_snoc]
        exact HO8.out))
      have HSL := Lib.hid hsl
      clear hsl
      have HNE := Lib.hid (show ¬ s.fr.length = 0 by rw [← HNF.out]; omega)
      have HDS := Lib.hid (show ∀ g ∈ s.fr, g.ds.length ≤ 100000 from fun g hg => by have := (HIN.out.1.ds g hg).1; omega)
      have x0 := HX8.out.c0
      have x1 := HX8.out.c1
      have x2 := HX8.out.c2
      have x3 := HX8.out.c3
      have x4 := HX8.out.c4
      have x5 := HX8.out.c5
      go_wp2_with fail
      refine Calls.mono (phased_any (some ⟨F, 0, none⟩) A6 (fs.length + 1) fc1 (np + 1) c6 (⟨s.fr, s.pn ++ [newP s ⟨4, en, vk, vn, vs⟩], s.next, s.ser + 1, s.en, s.st⟩ : ST) 2 w8 HST8.out HNE.out HKE.out.1.ok (by omega) (by omega) HDS.out) ?_
      rintro e w9 ⟨fv, pv, ds9, he, hfo, hpo, hb9⟩
      have hse : setPh s.fr 2 = fs ++ [phF f 2] := by rw [HF.out, setPh_snoc]
      have he9 : e = .returned (stV fv pv (⟨fs ++ [phF f 2], s.pn ++ [newP s ⟨4, en, vk, vn, vs⟩], s.next, s.ser + 1, s.en, s.st⟩ : ST)) := by rw [← hse]; exact he
      have hfo9 : FrO w9 w8.heap.size fv (fs ++ [phF f 2]) ds9 := by rw [← hse]; exact hfo
      have hpo9 : w9.ownsRow w8.heap.size 99 7 pv (s.pn ++ [newP s ⟨4, en, vk, vn, vs⟩]).length (pnL (s.pn ++ [newP s ⟨4, en, vk, vn, vs⟩])) := hpo
      clear he hfo hpo
      subst he9
      obtain ⟨FC, fc9, rfl⟩ := own_form hfo9.row
      obtain ⟨PC, pc9, rfl⟩ := own_form hpo9
      have hl1 : (fs ++ [phF f 2]).length = fs.length + 1 := by simp
      have hl2 : (s.pn ++ [newP s ⟨4, en, vk, vn, vs⟩]).length = (np + 1) := HSL.out
      rw [hl1]
      rw [hl2]
      have HS9 := Lib.hid (show STm w9 (fun b => w8.heap.size ≤ b ∧ b < w9.heap.size) (.slice FC (fs.length + 1) fc9) (.slice PC ((np + 1)) pc9) ((⟨fs ++ [phF f 2], s.pn ++ [newP s ⟨4, en, vk, vn, vs⟩], s.next, s.ser + 1, s.en, s.st⟩ : ST)) from by
        have h9 := STm.of (s := (⟨fs ++ [phF f 2], s.pn ++ [newP s ⟨4, en, vk, vn, vs⟩], s.next, s.ser + 1, s.en, s.st⟩ : ST)) hfo9 hpo9
        rw [hl1, hl2] at h9
        exact h9)
      have HL9 := Lib.hid (show ((⟨fs ++ [phF f 2], s.pn ++ [newP s ⟨4, en, vk, vn, vs⟩], s.next, s.ser + 1, s.en, s.st⟩ : ST)).fr.length = fs.length + 1 from hl1)
      clear hl1 hl2
      have HX9 := Lib.hid (SB.to HX8.out (hb9.block _ HX8.out.lt))
      have HR9 := Lib.hid (SB.to HR8.out (hb9.block _ HR8.out.lt))
      have HB9 := Lib.hid (HB8.out.trans (hb9.mono HB8.out.size))
      have HZ9 := Lib.hid (show w.heap.size + 3 ≤ w8.heap.size ∧ w8.heap.size ≤ w9.heap.size from ⟨by have := HZ8.out; omega, hb9.size⟩)
      clear hfo9 hpo9 hb9 hse x0 x1 x2 x3 x4 x5
      go_wp2_with fail
      refine Calls.mono (goOn_any (k + 1) (k + 1) (by omega) (by omega) (fs.length + 1) FC PC (fs.length + 1) fc9 ((np + 1)) pc9 ((⟨fs ++ [phF f 2], s.pn ++ [newP s ⟨4, en, vk, vn, vs⟩], s.next, s.ser + 1, s.en, s.st⟩ : ST)) (fun b => w8.heap.size ≤ b ∧ b < w9.heap.size) w9 HL9.out HKE.out.1 HKE.out.2.1 HS9.out (fun b hb => hb.2)) ?_
      rintro e w5 ⟨r, ts, fv, pv, tv, hgo, rfl, hS5, hT5, hb5⟩
      obtain ⟨A5, c5, ds5, e5, h5⟩ := hS5.fr
      obtain ⟨A6, c6, e6, h6⟩ := hS5.pn
      obtain ⟨A7, c7, e7, h7⟩ := hT5
      subst e5 e6 e7
      have HGO := Lib.hid (EvR.go HF.out HEV.out hgo)
      have HT5 := Lib.hid (show TLm w5 (fun b => w.heap.size + 3 ≤ b ∧ b < w5.heap.size) (.slice A7 ts.length c7) ts from TLm.more ⟨_, _, rfl, h7⟩ fun b hb => by have := HZ9.out; omega)
      have HS5 := Lib.hid (hS5.more (M' := fun b => w.heap.size + 3 ≤ b ∧ b < w5.heap.size) fun b hb => by have := HZ9.out; have := hb5.size; omega)
      have HR5 := Lib.hid (SB.to HR9.out (hb5.block _ HR9.out.lt))
      have HB5 := Lib.hid (HB9.out.trans (hb5.mono HB9.out.size))
      clear hgo hS5 hb5 h5 h6 h7
      go_upto_region 24 with (fail)
      have HG6 := Lib.hid (show SB (w5.alloc (.cells #[.slice A5 r.fr.length c5, .slice A6 r.pn.length c6, .int .i64 ((r).next : Int), .int .i64 ((r).ser : Int), .int .i64 (r).en, .int .i64 (r).st] 56)) w5.heap.size (.slice A5 r.fr.length c5) (.slice A6 r.pn.length c6) (r) from heap_alloc_new w5 _)
      have HR6 := Lib.hid (SB.to HR5.out (Lib.alloc_old w5 (.cells #[.slice A5 r.fr.length c5, .slice A6 r.pn.length c6, .int .i64 ((r).next : Int), .int .i64 ((r).ser : Int), .int .i64 (r).en, .int .i64 (r).st] 56) _ HR5.out.lt))
      have HB6 := Lib.hid (HB5.out.alloc HB5.out.size (.cells #[.slice A5 r.fr.length c5, .slice A6 r.pn.length c6, .int .i64 ((r).next : Int), .int .i64 ((r).ser : Int), .int .i64 (r).en, .int .i64 (r).st] 56))
      have HS6 := Lib.hid ((HS5.out.keep fun p hp => (al (w := w5) (.cells #[.slice A5 r.fr.length c5, .slice A6 r.pn.length c6, .int .i64 ((r).next : Int), .int .i64 ((r).ser : Int), .int .i64 (r).en, .int .i64 (r).st] 56)).cell hp.2).more (M' := fun b => w.heap.size + 3 ≤ b ∧ b < (w5.alloc (.cells #[.slice A5 r.fr.length c5, .slice A6 r.pn.length c6, .int .i64 ((r).next : Int), .int .i64 ((r).ser : Int), .int .i64 (r).en, .int .i64 (r).st] 56)).heap.size) fun b hb => by simp; omega)
      have HO6 := Lib.hid (show STm (w5.alloc (.cells #[.slice A5 r.fr.length c5, .slice A6 r.pn.length c6, .int .i64 ((r).next : Int), .int .i64 ((r).ser : Int), .int .i64 (r).en, .int .i64 (r).st] 56)) (fun b => w.heap.size + 3 ≤ b ∧ b < (w5.alloc (.cells #[.slice A5 r.fr.length c5, .slice A6 r.pn.length c6, .int .i64 ((r).next : Int), .int .i64 ((r).ser : Int), .int .i64 (r).en, .int .i64 (r).st] 56)).heap.size) (.slice A5 r.fr.length c5) (.slice A6 r.pn.length c6) (r) from ⟨HS6.out.1, HS6.out.2⟩)
      have HT6 := Lib.hid ((HT5.out.keep fun p hp => (al (w := w5) (.cells #[.slice A5 r.fr.length c5, .slice A6 r.pn.length c6, .int .i64 ((r).next : Int), .int .i64 ((r).ser : Int), .int .i64 (r).en, .int .i64 (r).st] 56)).cell hp.2).more (M' := fun b => w.heap.size + 3 ≤ b ∧ b < (w5.alloc (.cells #[.slice A5 r.fr.length c5, .slice A6 r.pn.length c6, .int .i64 ((r).next : Int), .int .i64 ((r).ser : Int), .int .i64 (r).en, .int .i64 (r).st] 56)).heap.size) fun b hb => by simp; omega)
      clear HS6
      generalize w5.alloc (.cells #[.slice A5 r.fr.length c5, .slice A6 r.pn.length c6, .int .i64 ((r).next : Int), .int .i64 ((r).ser : Int), .int .i64 (r).en, .int .i64 (r).st] 56) = w6 at *
      have x0 := HG6.out.c0
      have x1 := HG6.out.c1
      have x2 := HG6.out.c2
      have x3 := HG6.out.c3
      have x4 := HG6.out.c4
      have x5 := HG6.out.c5
      have gz6 := HG6.out.lt
      have rz6 := HR6.out.lt
      have r0 := HR6.out.c0
      have r1 := HR6.out.c1
      have r2 := HR6.out.c2
      have r3 := HR6.out.c3
      have r4 := HR6.out.c4
      have r5 := HR6.out.c5
      have y0 := HR6.out.z 0
      have y1 := HR6.out.z 1
      have y2 := HR6.out.z 2
      have y3 := HR6.out.z 3
      have y4 := HR6.out.z 4
      have y5 := HR6.out.z 5
      go_wp2_with fail
      obtain ⟨w7, hw7, b7, k7, l7, s7⟩ := six_at (w := w6) (g := w.heap.size + 1 + 1) (.slice A5 r.fr.length c5) (.slice A6 r.pn.length c6) (.int .i64 ((r).next : Int)) (.int .i64 ((r).ser : Int)) (.int .i64 (r).en) (.int .i64 (r).st) HR6.out
      rw [← hw7]
      have HEND := Lib.hid (sp_end (s := s) (v := ⟨4, en, vk, vn, vs⟩) (tv := .slice A7 ts.length c7) HGO.out HO6.out HT6.out HB6.out k7 l7 s7)
      have hR7 : SB w7 (w.heap.size + 1 + 1) (.slice A5 r.fr.length c5) (.slice A6 r.pn.length c6) (r) := b7
      clear r0 r1 r2 r3 r4 r5 y0 y1 y2 y3 y4 y5 hw7 b7 k7 l7 s7
      have r0 := hR7.c0
      have r1 := hR7.c1
      have r2 := hR7.c2
      have r3 := hR7.c3
      have r4 := hR7.c4
      have r5 := hR7.c5
      clear hR7
      refine bodyPost_ret (v := .tuple #[stV (.slice A5 r.fr.length c5) (.slice A6 r.pn.length c6) (r), .slice A7 ts.length c7, .int .i64 0]) (by simp [results, Try.results22, go_sem, r0, r1, r2, r3, r4, r5]) rfl ?_
      exact HEND.out
  · have b3 : mayB vk = false := by
      rcases hb : mayB vk with _ | _
      · rfl
      · exact absurd (may_iff.1 hb) hmay
    have HEV := Lib.hid (show EvR s ⟨4, en, vk, vn, vs⟩ none from .bad HF.out (by
      unfold evV
      rw [if_neg (show ¬ (4 : Int) = 1 by decide), if_neg (show ¬ (4 : Int) = 2 by decide), if_neg (show ¬ (4 : Int) = 3 by decide), if_pos rfl, if_neg hmay]))
    clear hmay
    go_wp2_with fail
    refine Calls.mono (refMay_any vk vn vs A len cap w3) ?_
    rintro e w4 ⟨rfl, hb4⟩
    have HR4 := Lib.hid (SB.to HR3.out (hb4.block _ HR3.out.lt))
    have HB4 := Lib.hid (HB3.out.trans (hb4.mono HB3.out.size))
    clear hb4
    have r0 := HR4.out.c0
    have r1 := HR4.out.c1
    have r2 := HR4.out.c2
    have r3 := HR4.out.c3
    have r4 := HR4.out.c4
    have r5 := HR4.out.c5
    have y0 := HR4.out.z 0
    have y1 := HR4.out.z 1
    have y2 := HR4.out.z 2
    have y3 := HR4.out.z 3
    have y4 := HR4.out.z 4
    have y5 := HR4.out.z 5
    have rz := HR4.out.lt
    go_wp2_with fail
    obtain ⟨w7, hw7, b7, k7, l7, s7⟩ := six_at (w := w4) (g := w.heap.size + 1 + 1) (.slice none 0 0) (.slice none 0 0) (.int .i64 0) (.int .i64 0) (.int .i64 0) (.int .i64 0) HR4.out
    rw [← hw7]
    have HB7 := Lib.hid (l7 w.heap.size (by omega) w HB4.out)
    have hR7 : SB w7 (w.heap.size + 1 + 1) (.slice none 0 0) (.slice none 0 0) zeroST := b7
    clear r0 r1 r2 r3 r4 r5 y0 y1 y2 y3 y4 y5 hw7 b7 k7 l7 s7
    have r0 := hR7.c0
    have r1 := hR7.c1
    have r2 := hR7.c2
    have r3 := hR7.c3
    have r4 := hR7.c4
    have r5 := hR7.c5
    clear hR7
    refine bodyPost_ret (v := .tuple #[stV (.slice none 0 0) (.slice none 0 0) ⟨[], [], 0, 0, 0, 0⟩, .slice none 0 0, .int .i64 13]) (by simp [results, Try.results22, go_sem, r0, r1, r2, r3, r4, r5, zeroST]) rfl ?_
    exact ⟨.inl ⟨HEV.out, rfl⟩, HB7.out⟩
end
end Go.Proofs.Ytapofohbngkekaa
