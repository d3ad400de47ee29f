/- The document's SameState of states that read the same. Conditions: bounds. -/
import Derived.Test.YtapofohbngkekaaPnQ
import Derived.Test.YtapofohbngkekaaPnJ
import Derived.Deep.RegionHeld3
import Derived.Test.YtapofohbngkekaaSameInts
set_option maxRecDepth 100000
namespace Go.Proofs.Ytapofohbngkekaa
open Go.ChangeShapes Go.WideShapes Go.ChangeAt Go.RowKit
theorem merge3 {α β γ : Type} {F : α → β → γ → Prop} {G : α → β → γ → Prop} {goal : Prop} (main : (∀ a b c, F a b c → G a b c) → goal) (later : ∀ a b c, F a b c → G a b c) : goal := main later
set_option maxHeartbeats 8000000 in
theorem sameState_any (FA PA FB PB : Option Addr) (nf fc np pc mf fd mp pd : Nat) (s : ST) (w : World) (h : STr w w.heap.size (.slice FA nf fc) (.slice PA np pc) s) (h' : STr w w.heap.size (.slice FB mf fd) (.slice PB mp pd) s) (hf : s.fr.length ≤ 1000) (hp : s.pn.length ≤ 1000000) (hds : ∀ f ∈ s.fr, f.ds.length ≤ 1000000) :
    Calls Try.prog 17 #[stV (.slice FA nf fc) (.slice PA np pc) s, stV (.slice FB mf fd) (.slice PB mp pd) s] w fun e w' => e = .returned (.bool true) ∧ Below w.heap.size w w' := by
  obtain ⟨⟨A1, c1, ds, e1, _, _, hfr⟩, ⟨A2, c2, e2, _, _, hpn⟩⟩ := h
  obtain ⟨⟨A3, c3, ds', e3, _, _, hfr'⟩, ⟨A4, c4, e4, _, _, hpn'⟩⟩ := h'
  injection e1 with x1 x2 x3
  injection e2 with x4 x5 x6
  injection e3 with x7 x8 x9
  injection e4 with y1 y2 y3
  subst x1 x2 x3 x4 x5 x6 x7 x8 x9 y1 y2 y3
  have HFR := Lib.hid hfr
  have HFR' := Lib.hid hfr'
  have HPN := Lib.hid hpn
  have HPN' := Lib.hid hpn'
  have HDS := Lib.hid hds
  have HPL := Lib.hid hp
  obtain ⟨nf, hnf⟩ : ∃ n, s.fr.length = n := ⟨_, rfl⟩
  obtain ⟨np, hnp⟩ : ∃ n, s.pn.length = n := ⟨_, rfl⟩
  have HNF := Lib.hid hnf
  have HNP := Lib.hid hnp
  rw [hnf] at hf ⊢
  rw [hnp] at hp ⊢
  clear hfr hfr' hpn hpn' hds hnf hnp
  go_enter Try.func17, Try.ntmps17
  go_wp2_with fail
  have hbx := sq (al (w := w) (.cells #[.slice FA nf fc, .slice PA np pc, .int .i64 (s.next : Int), .int .i64 (s.ser : Int), .int .i64 s.en, .int .i64 s.st] 56)) (al (.cells #[.slice FB nf fd, .slice PB np pd, .int .i64 (s.next : Int), .int .i64 (s.ser : Int), .int .i64 s.en, .int .i64 s.st] 56))
  have hx0 := (Lib.alloc_old (w.alloc (.cells #[.slice FA nf fc, .slice PA np pc, .int .i64 (s.next : Int), .int .i64 (s.ser : Int), .int .i64 s.en, .int .i64 s.st] 56)) (.cells #[.slice FB nf fd, .slice PB np pd, .int .i64 (s.next : Int), .int .i64 (s.ser : Int), .int .i64 s.en, .int .i64 s.st] 56) w.heap.size (by simp)).trans (heap_alloc_new w _)
  have hy0 := heap_atN (w := w.alloc (.cells #[.slice FA nf fc, .slice PA np pc, .int .i64 (s.next : Int), .int .i64 (s.ser : Int), .int .i64 s.en, .int .i64 s.st] 56)) (n := w.heap.size + 1) (.cells #[.slice FB nf fd, .slice PB np pd, .int .i64 (s.next : Int), .int .i64 (s.ser : Int), .int .i64 s.en, .int .i64 s.st] 56) (by simp)
  generalize (w.alloc (.cells #[.slice FA nf fc, .slice PA np pc, .int .i64 (s.next : Int), .int .i64 (s.ser : Int), .int .i64 s.en, .int .i64 s.st] 56)).alloc (.cells #[.slice FB nf fd, .slice PB np pd, .int .i64 (s.next : Int), .int .i64 (s.ser : Int), .int .i64 s.en, .int .i64 s.st] 56) = wa at *
  refine Calls.mono (samePn_any PA PB np np pc pd s.pn wa (by have := (HPN.out.below hbx).more hbx.size; rwa [HNP.out] at this) (by have := (HPN'.out.below hbx).more hbx.size; rwa [HNP.out] at this) HNP.out.symm HNP.out.symm HPL.out) ?_
  rintro e w1 ⟨rfl, hb1⟩
  have HX1 := Lib.hid ((hb1.block w.heap.size (Array.getElem?_eq_some_iff.1 hx0).1).trans hx0)
  have HY1 := Lib.hid ((hb1.block (w.heap.size + 1) (Array.getElem?_eq_some_iff.1 hy0).1).trans hy0)
  have HB1 := Lib.hid (sq hbx hb1)
  have x0 : w1.cell? ⟨w.heap.size, 0, none⟩ = some (.slice FA nf fc) := by rw [Lib.cell_of_heap HX1.out]; rfl
  clear hbx hx0 hy0 hb1
  go_wp2_with fail
  clear x0
  go_loopw [54] (fun i wr => ∃ k : Nat, k ≤ nf ∧ i = .int .i64 (k : Int) ∧ Hid (Below w1.heap.size w1 wr)) (fun i _ => nf - (intOf i).toNat)
  case atStart => exact ⟨0, Nat.zero_le _, rfl, Lib.hid (Below.refl _ _)⟩
  case round =>
    obtain ⟨k, hk, rfl, HB⟩ := hrel
    have HBW := Lib.hid (HB1.out.trans (HB.out.mono HB1.out.size))
    by_cases hlt : k < nf
    · obtain ⟨f, hf⟩ : ∃ f, s.fr[k]? = some f := ⟨_, List.getElem?_eq_getElem (by rw [HNF.out]; exact hlt)⟩
      obtain ⟨d, hd⟩ := HFR.out.form hf
      obtain ⟨d', hd'⟩ := HFR'.out.form hf
      obtain ⟨D, dc, rfl, _, _, hdr⟩ := HFR.out.dr k f _ hf hd
      obtain ⟨D', dc', rfl, _, _, hdr'⟩ := HFR'.out.dr k f _ hf hd'
      obtain ⟨b, off, rfl, hb, hcell⟩ := HFR.out.row.2 (by rw [HNF.out]; omega)
      obtain ⟨b', off', rfl, hb', hcell'⟩ := HFR'.out.row.2 (by rw [HNF.out]; omega)
      have hcc : ∀ j, j < 5 → wr.cell? ⟨b, off + k * 5 + j, none⟩ = (frC f (.slice D f.ds.length dc))[j]? := fun j hj => by
        have h1 : (frL s.fr ds)[k * 5 + j]? = (frC f (.slice D f.ds.length dc))[j]? := frL_get hf hd hj
        have hj2 : j < (frC f (.slice D f.ds.length dc)).length := hj
        rw [List.getElem?_eq_getElem hj2] at h1 ⊢
        have := hcell (k * 5 + j) _ h1
        rw [← Nat.add_assoc] at this
        exact (HBW.out.cell (p := ⟨b, _, none⟩) hb).trans this
      have hcc' : ∀ j, j < 5 → wr.cell? ⟨b', off' + k * 5 + j, none⟩ = (frC f (.slice D' f.ds.length dc'))[j]? := fun j hj => by
        have h1 : (frL s.fr ds')[k * 5 + j]? = (frC f (.slice D' f.ds.length dc'))[j]? := frL_get hf hd' hj
        have hj2 : j < (frC f (.slice D' f.ds.length dc')).length := hj
        rw [List.getElem?_eq_getElem hj2] at h1 ⊢
        have := hcell' (k * 5 + j) _ h1
        rw [← Nat.add_assoc] at this
        exact (HBW.out.cell (p := ⟨b', _, none⟩) hb').trans this
      have hfl := HDS.out f (List.mem_of_getElem? hf)
      obtain ⟨m, hm⟩ : ∃ m, f.ds.length = m := ⟨_, rfl⟩
      rw [hm] at hcc hcc' hdr hdr' hfl
      have HD := Lib.hid (And.intro hdr hdr')
      have e0 := hcc 0 (by omega)
      have e1 := hcc 1 (by omega)
      have e2 := hcc 2 (by omega)
      have e3 := hcc 3 (by omega)
      have e4 := hcc 4 (by omega)
      have g0 := hcc' 0 (by omega)
      have g1 := hcc' 1 (by omega)
      have g2 := hcc' 2 (by omega)
      have g3 := hcc' 3 (by omega)
      have g4 := hcc' 4 (by omega)
      simp only [frC, List.getElem?_cons_zero, List.getElem?_cons_succ, Nat.add_zero] at e0 e1 e2 e3 e4 g0 g1 g2 g3 g4
      have hxr := (HB.out.block w.heap.size (Array.getElem?_eq_some_iff.1 HX1.out).1).trans HX1.out
      have hyr := (HB.out.block (w.heap.size + 1) (Array.getElem?_eq_some_iff.1 HY1.out).1).trans HY1.out
      have q0 : wr.cell? ⟨w.heap.size, 0, none⟩ = some (.slice (some ⟨b, off, none⟩) nf fc) := by rw [Lib.cell_of_heap hxr]; rfl
      have q1 : wr.cell? ⟨w.heap.size + 1, 0, none⟩ = some (.slice (some ⟨b', off', none⟩) nf fd) := by rw [Lib.cell_of_heap hyr]; rfl
      have hz0 : w.heap.size < wr.heap.size := (Array.getElem?_eq_some_iff.1 hxr).1
      have hz1 : w.heap.size + 1 < wr.heap.size := (Array.getElem?_eq_some_iff.1 hyr).1
      have hlti : (k : Int) < (nf : Int) := by omega
      have hbr : b < wr.heap.size := by omega
      have hbr' : b' < wr.heap.size := by omega
      clear hcc hcc' hcell hcell' hf hd hd' hdr hdr' hxr hyr hm
      go_wp2_with fail
      refine merge3 (F := fun (gx gy : Nat) (w7 : World) => w7.heap[gx]? = some (.cells #[.int .i64 f.id, .int .i64 f.mark, .int .i64 f.pan, .int .i64 f.ph, .slice D m dc] 93 (0, 0)) ∧ w7.heap[gy]? = some (.cells #[.int .i64 f.id, .int .i64 f.mark, .int .i64 f.pan, .int .i64 f.ph, .slice D' m dc'] 93 (0, 0)) ∧ Below wr.heap.size wr w7) (G := ?G) (fun hk => ?main) ?later
      case main =>
        go_region_held3 (fun w' => w'.cell? ⟨w.heap.size, 0, none⟩ = some (.slice (some ⟨b, off, none⟩) nf fc) ∧ w'.cell? ⟨w.heap.size + 1, 0, none⟩ = some (.slice (some ⟨b', off', none⟩) nf fd) ∧ w'.cell? ⟨b, off + k * 5, none⟩ = some (.int .i64 f.id) ∧ w'.cell? ⟨b, off + k * 5 + 1, none⟩ = some (.int .i64 f.mark) ∧ w'.cell? ⟨b, off + k * 5 + 2, none⟩ = some (.int .i64 f.pan) ∧ w'.cell? ⟨b, off + k * 5 + 3, none⟩ = some (.int .i64 f.ph) ∧ w'.cell? ⟨b, off + k * 5 + 4, none⟩ = some (.slice D m dc) ∧ w'.cell? ⟨b', off' + k * 5, none⟩ = some (.int .i64 f.id) ∧ w'.cell? ⟨b', off' + k * 5 + 1, none⟩ = some (.int .i64 f.mark) ∧ w'.cell? ⟨b', off' + k * 5 + 2, none⟩ = some (.int .i64 f.pan) ∧ w'.cell? ⟨b', off' + k * 5 + 3, none⟩ = some (.int .i64 f.ph) ∧ w'.cell? ⟨b', off' + k * 5 + 4, none⟩ = some (.slice D' m dc')) (go_keep) (fail)
        · have hf := And.intro (show ((wr.alloc (.cells #[.int .i64 f.id, .int .i64 f.mark, .int .i64 f.pan, .int .i64 f.ph, .slice D m dc] 93)).alloc (.cells #[.int .i64 f.id, .int .i64 f.mark, .int .i64 f.pan, .int .i64 f.ph, .slice D' m dc'] 93)).drew.heap[wr.heap.size]? = some (.cells #[.int .i64 f.id, .int .i64 f.mark, .int .i64 f.pan, .int .i64 f.ph, .slice D m dc] 93 (0, 0)) from (Lib.alloc_old _ _ _ (by simp)).trans (heap_alloc_new wr _)) (And.intro (show ((wr.alloc (.cells #[.int .i64 f.id, .int .i64 f.mark, .int .i64 f.pan, .int .i64 f.ph, .slice D m dc] 93)).alloc (.cells #[.int .i64 f.id, .int .i64 f.mark, .int .i64 f.pan, .int .i64 f.ph, .slice D' m dc'] 93)).drew.heap[wr.heap.size + 1]? = some (.cells #[.int .i64 f.id, .int .i64 f.mark, .int .i64 f.pan, .int .i64 f.ph, .slice D' m dc'] 93 (0, 0)) from heap_atN (w := wr.alloc (.cells #[.int .i64 f.id, .int .i64 f.mark, .int .i64 f.pan, .int .i64 f.ph, .slice D m dc] 93)) _ (by simp)) (sq (al (w := wr) (.cells #[.int .i64 f.id, .int .i64 f.mark, .int .i64 f.pan, .int .i64 f.ph, .slice D m dc] 93)) (al (.cells #[.int .i64 f.id, .int .i64 f.mark, .int .i64 f.pan, .int .i64 f.ph, .slice D' m dc'] 93))).drew)
          generalize ((wr.alloc (.cells #[.int .i64 f.id, .int .i64 f.mark, .int .i64 f.pan, .int .i64 f.ph, .slice D m dc] 93)).alloc (.cells #[.int .i64 f.id, .int .i64 f.mark, .int .i64 f.pan, .int .i64 f.ph, .slice D' m dc'] 93)).drew = w7 at *
          generalize hgy : wr.heap.size + 1 = gy
          generalize hgx : wr.heap.size = gx
          exact hk gx gy w7 ⟨by rw [← hgx]; exact hf.1, by rw [← hgy]; exact hf.2.1, hf.2.2⟩
        · have hf := And.intro (show ((wr.alloc (.cells #[.int .i64 f.id, .int .i64 f.mark, .int .i64 f.pan, .int .i64 f.ph, .slice D' m dc'] 93)).alloc (.cells #[.int .i64 f.id, .int .i64 f.mark, .int .i64 f.pan, .int .i64 f.ph, .slice D m dc] 93)).drew.heap[wr.heap.size]? = some (.cells #[.int .i64 f.id, .int .i64 f.mark, .int .i64 f.pan, .int .i64 f.ph, .slice D' m dc'] 93 (0, 0)) from (Lib.alloc_old _ _ _ (by simp)).trans (heap_alloc_new wr _)) (And.intro (show ((wr.alloc (.cells #[.int .i64 f.id, .int .i64 f.mark, .int .i64 f.pan, .int .i64 f.ph, .slice D' m dc'] 93)).alloc (.cells #[.int .i64 f.id, .int .i64 f.mark, .int .i64 f.pan, .int .i64 f.ph, .slice D m dc] 93)).drew.heap[wr.heap.size + 1]? = some (.cells #[.int .i64 f.id, .int .i64 f.mark, .int .i64 f.pan, .int .i64 f.ph, .slice D m dc] 93 (0, 0)) from heap_atN (w := wr.alloc (.cells #[.int .i64 f.id, .int .i64 f.mark, .int .i64 f.pan, .int .i64 f.ph, .slice D' m dc'] 93)) _ (by simp)) (sq (al (w := wr) (.cells #[.int .i64 f.id, .int .i64 f.mark, .int .i64 f.pan, .int .i64 f.ph, .slice D' m dc'] 93)) (al (.cells #[.int .i64 f.id, .int .i64 f.mark, .int .i64 f.pan, .int .i64 f.ph, .slice D m dc] 93))).drew)
          generalize ((wr.alloc (.cells #[.int .i64 f.id, .int .i64 f.mark, .int .i64 f.pan, .int .i64 f.ph, .slice D' m dc'] 93)).alloc (.cells #[.int .i64 f.id, .int .i64 f.mark, .int .i64 f.pan, .int .i64 f.ph, .slice D m dc] 93)).drew = w7 at *
          generalize hgy : wr.heap.size + 1 = gy
          generalize hgx : wr.heap.size = gx
          exact hk gy gx w7 ⟨by rw [← hgy]; exact hf.2.1, by rw [← hgx]; exact hf.1, hf.2.2⟩
      case later =>
        rintro gx gy w7 ⟨hx7, hy7, hb7⟩
        have HX7 := Lib.hid hx7
        have HY7 := Lib.hid hy7
        have HB7 := Lib.hid (HB.out.trans (hb7.mono HB.out.size))
        clear hx7 hy7 hb7 e0 e1 e2 e3 e4 g0 g1 g2 g3 g4 q0 q1 hz0 hz1 hbr hbr'
        have x0 : w7.cell? ⟨gx, 0, none⟩ = some (.int .i64 f.id) := by rw [Lib.cell_of_heap HX7.out]; rfl
        have x1 : w7.cell? ⟨gx, 1, none⟩ = some (.int .i64 f.mark) := by rw [Lib.cell_of_heap HX7.out]; rfl
        have x2 : w7.cell? ⟨gx, 2, none⟩ = some (.int .i64 f.pan) := by rw [Lib.cell_of_heap HX7.out]; rfl
        have x3 : w7.cell? ⟨gx, 3, none⟩ = some (.int .i64 f.ph) := by rw [Lib.cell_of_heap HX7.out]; rfl
        have x4 : w7.cell? ⟨gx, 4, none⟩ = some (.slice D m dc) := by rw [Lib.cell_of_heap HX7.out]; rfl
        have y0 : w7.cell? ⟨gy, 0, none⟩ = some (.int .i64 f.id) := by rw [Lib.cell_of_heap HY7.out]; rfl
        have y1 : w7.cell? ⟨gy, 1, none⟩ = some (.int .i64 f.mark) := by rw [Lib.cell_of_heap HY7.out]; rfl
        have y2 : w7.cell? ⟨gy, 2, none⟩ = some (.int .i64 f.pan) := by rw [Lib.cell_of_heap HY7.out]; rfl
        have y3 : w7.cell? ⟨gy, 3, none⟩ = some (.int .i64 f.ph) := by rw [Lib.cell_of_heap HY7.out]; rfl
        have y4 : w7.cell? ⟨gy, 4, none⟩ = some (.slice D' m dc') := by rw [Lib.cell_of_heap HY7.out]; rfl
        have HBX := Lib.hid (HB1.out.trans (HB7.out.mono HB1.out.size))
        go_wp2_with fail
        refine (refSameInts_any D D' m m dc dc' f.ds f.ds w7 w7.heap.size w7.heap.size ((HD.out.1.below HBX.out).more HBX.out.size) ((HD.out.2.below HBX.out).more HBX.out.size) (by omega) (by omega)).mono ?_
        rintro e w8 ⟨rfl, n8, rfl⟩
        rw [show (f.ds == f.ds) = true from beq_self_eq_true _]
        have HB8 := Lib.hid (dr HB7.out n8)
        clear x0 x1 x2 x3 x4 y0 y1 y2 y3 y4
        go_wp2_with fail
        go_roundw
        case rel => exact ⟨k + 1, by omega, by go_num, HB8⟩
        case measure => simp [intOf]; omega
    · go_wp2_with fail
      go_ret
      exact ⟨rfl, HBW.out⟩
end Go.Proofs.Ytapofohbngkekaa
