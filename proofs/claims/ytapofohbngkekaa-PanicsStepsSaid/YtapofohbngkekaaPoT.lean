/- panics.Step, with where its answer lies. Conditions: the state is one that is come to. -/
import Derived.Test.YtapofohbngkekaaPoS
import Derived.Test.YtapofohbngkekaaPnO
set_option maxRecDepth 100000
namespace Go.Proofs.Ytapofohbngkekaa
open Go.ChangeShapes Go.WideShapes Go.ChangeAt Go.RowKit
set_option maxHeartbeats 16000000 in
theorem step_anyM (FA PA : Option Addr) (nf fc np pc k : Nat) (s : ST) (v : EV) (A : Option Addr) (len cap : Nat) (w : World) (hs : STr w w.heap.size (.slice FA nf fc) (.slice PA np pc) s) (hi : Inv k s) (hk : k ≤ 50000) (he : s.en = 0) :
    Calls Try.prog 20 #[stV (.slice FA nf fc) (.slice PA np pc) s, evA v A len cap] w (SpP s v w) := by
  have hlv := hi.2 he
  obtain ⟨⟨FA', fc', dso, e1, _, _, _⟩, ⟨PA', pc', e2, _, _, _⟩⟩ := id hs
  injection e1 with e1 e3 e4
  injection e2 with e2 e5 e6
  subst e1 e3 e4 e2 e5 e6
  have hn0 : s.fr.length ≠ 0 := by
    obtain ⟨fs, f, hf, _⟩ := hlv.top
    rw [hf]
    simp
  have hf30 := hi.1.fr
  have hp2 := hi.1.pn
  have HOK := Lib.hid (show ∀ p ∈ s.pn, PnOk p from hi.1.ok)
  obtain ⟨nf, hnf⟩ : ∃ n, s.fr.length = n := ⟨_, rfl⟩
  obtain ⟨np, hnp⟩ : ∃ n, s.pn.length = n := ⟨_, rfl⟩
  rw [hnf] at hn0 hf30 hs ⊢
  rw [hnp] at hp2 hs ⊢
  have HS := Lib.hid hs
  have HIN := Lib.hid hi
  have HNF := Lib.hid hnf
  have HNP := Lib.hid hnp
  have H0 := Lib.hid he
  have b1 : (s.en != 0) = false := by rw [he]; rfl
  have b2 : ((nf : Int) == 0) = false := by simp; omega
  clear hs hi hnf hnp hlv he
  go_enter Try.func20, Try.ntmps20
  go_wp2_with fail
  have HBA := Lib.hid (show Below w.heap.size w (((w.alloc (.cells #[.slice FA nf fc, .slice PA np pc, .int .i64 (s.next : Int), .int .i64 (s.ser : Int), .int .i64 s.en, .int .i64 s.st] 56)).alloc (.cells (evC v A len cap) 51)).alloc (.cells #[.slice none 0 0, .slice none 0 0, .int .i64 0, .int .i64 0, .int .i64 0, .int .i64 0] 56)) from sq (sq (al _) (al _)) (al _))
  have HVA := Lib.hid (show (((w.alloc (.cells #[.slice FA nf fc, .slice PA np pc, .int .i64 (s.next : Int), .int .i64 (s.ser : Int), .int .i64 s.en, .int .i64 s.st] 56)).alloc (.cells (evC v A len cap) 51)).alloc (.cells #[.slice none 0 0, .slice none 0 0, .int .i64 0, .int .i64 0, .int .i64 0, .int .i64 0] 56)).heap[w.heap.size + 1]? = _ from (Lib.alloc_old _ _ _ (by simp)).trans (heap_atN _ (by simp)))
  have HRA := Lib.hid (show (((w.alloc (.cells #[.slice FA nf fc, .slice PA np pc, .int .i64 (s.next : Int), .int .i64 (s.ser : Int), .int .i64 s.en, .int .i64 s.st] 56)).alloc (.cells (evC v A len cap) 51)).alloc (.cells #[.slice none 0 0, .slice none 0 0, .int .i64 0, .int .i64 0, .int .i64 0, .int .i64 0] 56)).heap[w.heap.size + 2]? = _ from heap_atN _ (by simp))
  have HZA := Lib.hid (show (((w.alloc (.cells #[.slice FA nf fc, .slice PA np pc, .int .i64 (s.next : Int), .int .i64 (s.ser : Int), .int .i64 s.en, .int .i64 s.st] 56)).alloc (.cells (evC v A len cap) 51)).alloc (.cells #[.slice none 0 0, .slice none 0 0, .int .i64 0, .int .i64 0, .int .i64 0, .int .i64 0] 56)).heap.size = w.heap.size + 3 by simp)
  generalize hwa : (((w.alloc (.cells #[.slice FA nf fc, .slice PA np pc, .int .i64 (s.next : Int), .int .i64 (s.ser : Int), .int .i64 s.en, .int .i64 s.st] 56)).alloc (.cells (evC v A len cap) 51)).alloc (.cells #[.slice none 0 0, .slice none 0 0, .int .i64 0, .int .i64 0, .int .i64 0, .int .i64 0] 56)) = wa at *
  clear hwa
  refine Calls.mono (pcopied_any FA PA nf fc np pc s wa ((HS.out.into HBA.out).more (by have := HZA.out; omega)) HOK.out hn0 (by omega) (by omega) (fun f hf => by have := (HIN.out.1.ds f hf).1; omega)) ?_
  rintro e w2 ⟨fv, pv, ds, rfl, hfo, hpo, hb2⟩
  obtain ⟨FK, fk, rfl⟩ := own_form hfo.row
  obtain ⟨PK, pk, rfl⟩ := own_form hpo
  have HV2 := Lib.hid ((hb2.block (w.heap.size + 1) (by have := HZA.out; omega)).trans HVA.out)
  have HR2 := Lib.hid ((hb2.block (w.heap.size + 2) (by have := HZA.out; omega)).trans HRA.out)
  have HB2 := Lib.hid (HBA.out.trans (hb2.mono (by have := HZA.out; omega)))
  have HFO := Lib.hid hfo
  have HPO := Lib.hid hpo
  have HZ2 := Lib.hid (show w.heap.size + 3 ≤ w2.heap.size by have := hb2.size; have := HZA.out; omega)
  clear hfo hpo hb2 HVA HRA HBA
  have e0 : w2.cell? ⟨w.heap.size + 1, 0, none⟩ = some (.int .i64 v.kind) := by rw [Lib.cell_of_heap HV2.out]; rfl
  have e1 : w2.cell? ⟨w.heap.size + 1, 1, none⟩ = some (.int .i64 v.n) := by rw [Lib.cell_of_heap HV2.out]; rfl
  have e2 : w2.cell? ⟨w.heap.size + 1, 2, none⟩ = some (.int .i64 v.k) := by rw [Lib.cell_of_heap HV2.out]; rfl
  have e3 : w2.cell? ⟨w.heap.size + 1, 3, none⟩ = some (.int .i64 v.vn) := by rw [Lib.cell_of_heap HV2.out]; rfl
  have e4 : w2.cell? ⟨w.heap.size + 1, 4, none⟩ = some (.string v.s) := by rw [Lib.cell_of_heap HV2.out]; rfl
  have e5 : w2.cell? ⟨w.heap.size + 1, 5, none⟩ = some (.slice A len cap) := by rw [Lib.cell_of_heap HV2.out]; rfl
  have hgz : w.heap.size + 1 < w2.heap.size := by have := HZ2.out; omega
  go_wp2_with fail
  have HPL := Lib.hid (show PL wa.heap.size w2.heap.size s [] (w2.alloc (.cells #[.slice FK s.fr.length fk, .slice PK s.pn.length pk, .int .i64 (s.next : Int), .int .i64 (s.ser : Int), .int .i64 s.en, .int .i64 s.st, .slice none 0 0] 89)) from by
    refine ⟨_, _, _, ds, by have := HZ2.out; have := HZA.out; omega, heap_alloc_new w2 _, HFO.out.stay fun b cs t hb _ => (al _).block b (Array.getElem?_eq_some_iff.1 hb).1, own_below HPO.out (al _), World.ownsRow_nil _ _ _ _⟩)
  have HR3 := Lib.hid (show (w2.alloc (.cells #[.slice FK s.fr.length fk, .slice PK s.pn.length pk, .int .i64 (s.next : Int), .int .i64 (s.ser : Int), .int .i64 s.en, .int .i64 s.st, .slice none 0 0] 89)).heap[w.heap.size + 2]? = _ from ((al _).block (w.heap.size + 2) (by have := HZ2.out; omega)).trans HR2.out)
  have HB3 := Lib.hid (HB2.out.alloc (by omega) (.cells #[.slice FK s.fr.length fk, .slice PK s.pn.length pk, .int .i64 (s.next : Int), .int .i64 (s.ser : Int), .int .i64 s.en, .int .i64 s.st, .slice none 0 0] 89))
  clear e0 e1 e2 e3 e4 e5 HFO HPO HR2 HB2
  generalize w2.alloc (.cells #[.slice FK s.fr.length fk, .slice PK s.pn.length pk, .int .i64 (s.next : Int), .int .i64 (s.ser : Int), .int .i64 s.en, .int .i64 s.st, .slice none 0 0] 89) = w3 at *
  generalize w2.heap.size = P at *
  refine Calls.mono (event_any wa.heap.size P k s [] v A len cap _ HPL.out HIN.out.1 (HIN.out.2 H0.out) (by omega) (by simp)) ?_
  rintro e w5 ⟨⟨rfl, he⟩ | ⟨rfl, r, ts, he, hp5⟩, hb5⟩
  · have HEN := Lib.hid he
    have HB5 := Lib.hid (HB3.out.trans (hb5.mono (by have := HZA.out; omega)))
    have HR5 := Lib.hid ((hb5.block (w.heap.size + 2) (by have := HZA.out; omega)).trans HR3.out)
    clear hb5 he
    have r0 : w5.cell? ⟨w.heap.size + 2, 0, none⟩ = some (.slice none 0 0) := by rw [Lib.cell_of_heap HR5.out]; rfl
    have r1 : w5.cell? ⟨w.heap.size + 2, 1, none⟩ = some (.slice none 0 0) := by rw [Lib.cell_of_heap HR5.out]; rfl
    have r2 : w5.cell? ⟨w.heap.size + 2, 2, none⟩ = some (.int .i64 0) := by rw [Lib.cell_of_heap HR5.out]; rfl
    have r3 : w5.cell? ⟨w.heap.size + 2, 3, none⟩ = some (.int .i64 0) := by rw [Lib.cell_of_heap HR5.out]; rfl
    have r4 : w5.cell? ⟨w.heap.size + 2, 4, none⟩ = some (.int .i64 0) := by rw [Lib.cell_of_heap HR5.out]; rfl
    have r5 : w5.cell? ⟨w.heap.size + 2, 5, none⟩ = some (.int .i64 0) := by rw [Lib.cell_of_heap HR5.out]; rfl
    have y0 := Lib.frozen_of_heap HR5.out 0
    have y1 := Lib.frozen_of_heap HR5.out 1
    have y2 := Lib.frozen_of_heap HR5.out 2
    have y3 := Lib.frozen_of_heap HR5.out 3
    have y4 := Lib.frozen_of_heap HR5.out 4
    have y5 := Lib.frozen_of_heap HR5.out 5
    go_wp2_with fail
    obtain ⟨w7, hw7, b7, k7, l7, s7⟩ := six_at (w := w5) (g := w.heap.size + 2) (.slice none 0 0) (.slice none 0 0) (.int .i64 0) (.int .i64 0) (.int .i64 0) (.int .i64 0) HR5.out
    rw [← hw7]
    have HB7 := Lib.hid (l7 w.heap.size (by omega) w HB5.out)
    clear r0 r1 r2 r3 r4 r5 y0 y1 y2 y3 y4 y5 hw7 k7 l7 s7
    have r0 : w7.cell? ⟨w.heap.size + 2, 0, none⟩ = some (.slice none 0 0) := by rw [Lib.cell_of_heap b7]; rfl
    have r1 : w7.cell? ⟨w.heap.size + 2, 1, none⟩ = some (.slice none 0 0) := by rw [Lib.cell_of_heap b7]; rfl
    have r2 : w7.cell? ⟨w.heap.size + 2, 2, none⟩ = some (.int .i64 0) := by rw [Lib.cell_of_heap b7]; rfl
    have r3 : w7.cell? ⟨w.heap.size + 2, 3, none⟩ = some (.int .i64 0) := by rw [Lib.cell_of_heap b7]; rfl
    have r4 : w7.cell? ⟨w.heap.size + 2, 4, none⟩ = some (.int .i64 0) := by rw [Lib.cell_of_heap b7]; rfl
    have r5 : w7.cell? ⟨w.heap.size + 2, 5, none⟩ = some (.int .i64 0) := by rw [Lib.cell_of_heap b7]; rfl
    clear b7
    go_wp2_with fail
    refine bodyPost_ret (v := .tuple #[stV (.slice none 0 0) (.slice none 0 0) ⟨[], [], 0, 0, 0, 0⟩, .slice none 0 0, .int .i64 13]) (by simp [results, Try.results20, go_sem, r0, r1, r2, r3, r4, r5]) rfl ?_
    exact ⟨.inl ⟨HEN.out, rfl⟩, HB7.out⟩
  · have HEN := Lib.hid he
    have HB5 := Lib.hid (HB3.out.trans (hb5.mono (by have := HZA.out; omega)))
    have HR5 := Lib.hid ((hb5.block (w.heap.size + 2) (by have := HZA.out; omega)).trans HR3.out)
    obtain ⟨fv, pv, tv, ds1, hpc⟩ := hp5
    have HPC5 := Lib.hid hpc
    clear hb5 he hpc
    have r0 : w5.cell? ⟨w.heap.size + 2, 0, none⟩ = some (.slice none 0 0) := by rw [Lib.cell_of_heap HR5.out]; rfl
    have r1 : w5.cell? ⟨w.heap.size + 2, 1, none⟩ = some (.slice none 0 0) := by rw [Lib.cell_of_heap HR5.out]; rfl
    have r2 : w5.cell? ⟨w.heap.size + 2, 2, none⟩ = some (.int .i64 0) := by rw [Lib.cell_of_heap HR5.out]; rfl
    have r3 : w5.cell? ⟨w.heap.size + 2, 3, none⟩ = some (.int .i64 0) := by rw [Lib.cell_of_heap HR5.out]; rfl
    have r4 : w5.cell? ⟨w.heap.size + 2, 4, none⟩ = some (.int .i64 0) := by rw [Lib.cell_of_heap HR5.out]; rfl
    have r5 : w5.cell? ⟨w.heap.size + 2, 5, none⟩ = some (.int .i64 0) := by rw [Lib.cell_of_heap HR5.out]; rfl
    have y0 := Lib.frozen_of_heap HR5.out 0
    have y1 := Lib.frozen_of_heap HR5.out 1
    have y2 := Lib.frozen_of_heap HR5.out 2
    have y3 := Lib.frozen_of_heap HR5.out 3
    have y4 := Lib.frozen_of_heap HR5.out 4
    have y5 := Lib.frozen_of_heap HR5.out 5
    obtain ⟨FA1, fc1, rfl, _, _, _⟩ := HPC5.out.fr.read
    obtain ⟨PA1, pc1, rfl, _, _, _⟩ := own_read7 HPC5.out.pn
    obtain ⟨TA1, tc1, rfl, _, _, _⟩ := own_read7 HPC5.out.tl
    obtain ⟨d0, d1, d2, d3, d4, d5, d6, _⟩ := HPC5.out.boxc
    have hne : w.heap.size + 2 ≠ P := by have := HPC5.out.hP; have := HZA.out; omega
    go_wp2_with fail
    refine (show ?G → _ from fun hk => ?main) ?later
    case main =>
      go_region_law (fail)
      all_goals exact hk
    go_wp2_with fail
    obtain ⟨w7, hw7, b7, k7, l7, s7⟩ := six_at (w := w5) (g := w.heap.size + 2) (.slice FA1 r.fr.length fc1) (.slice PA1 r.pn.length pc1) (.int .i64 (r.next : Int)) (.int .i64 (r.ser : Int)) (.int .i64 r.en) (.int .i64 r.st) HR5.out
    rw [← hw7]
    have HB7 := Lib.hid ((l7 w.heap.size (by omega) w HB5.out).drew)
    have HF7 := Lib.hid (show FrO w7.drew wa.heap.size (.slice FA1 r.fr.length fc1) r.fr ds1 from HPC5.out.fr.stay fun b cs t hb ht => k7 b (fun e => by
      rw [e, HR5.out] at hb
      injection hb with hb
      injection hb with _ hb
      subst hb
      rcases ht with ht | ht <;> exact absurd ht (by decide)))
    have HP7 := Lib.hid (own_stay (w' := w7.drew) HPC5.out.pn fun b hb => k7 b (fun e => by have := (HPC5.out.pn.lt b hb).1; have := HZA.out; omega))
    have HT7 := Lib.hid (own_stay (w' := w7.drew) HPC5.out.tl fun b hb => k7 b (fun e => by have := (HPC5.out.tl.lt b hb).1; have := HZA.out; omega))
    clear r0 r1 r2 r3 r4 r5 y0 y1 y2 y3 y4 y5 d0 d1 d2 d3 d4 d5 d6 hw7 k7 l7 s7
    have r0 : w7.cell? ⟨w.heap.size + 2, 0, none⟩ = some (.slice FA1 r.fr.length fc1) := by rw [Lib.cell_of_heap b7]; rfl
    have r1 : w7.cell? ⟨w.heap.size + 2, 1, none⟩ = some (.slice PA1 r.pn.length pc1) := by rw [Lib.cell_of_heap b7]; rfl
    have r2 : w7.cell? ⟨w.heap.size + 2, 2, none⟩ = some (.int .i64 (r.next : Int)) := by rw [Lib.cell_of_heap b7]; rfl
    have r3 : w7.cell? ⟨w.heap.size + 2, 3, none⟩ = some (.int .i64 (r.ser : Int)) := by rw [Lib.cell_of_heap b7]; rfl
    have r4 : w7.cell? ⟨w.heap.size + 2, 4, none⟩ = some (.int .i64 r.en) := by rw [Lib.cell_of_heap b7]; rfl
    have r5 : w7.cell? ⟨w.heap.size + 2, 5, none⟩ = some (.int .i64 r.st) := by rw [Lib.cell_of_heap b7]; rfl
    clear b7
    refine bodyPost_ret (v := .tuple #[stV (.slice FA1 r.fr.length fc1) (.slice PA1 r.pn.length pc1) r, .slice TA1 ([] ++ ts).length tc1, .int .i64 0]) (by simp [results, Try.results20, go_sem, r0, r1, r2, r3, r4, r5]) rfl ?_
    obtain ⟨q1, q2, _⟩ := own_cap HT7.out
    exact ⟨.inr ⟨r, ts, _, _, _, HEN.out, rfl, (STm.of HF7.out HP7.out).more fun b hb => ⟨by have := HZA.out; have := hb.1; omega, hb.2⟩, ⟨_, _, rfl, q1, q2, (RdM.of_own HT7.out).more fun b hb => ⟨by have := HZA.out; have := hb.1; omega, hb.2⟩⟩⟩, HB7.out⟩
end Go.Proofs.Ytapofohbngkekaa
