/- The law PanicsSteps. Conditions: what comes in reads as events. -/
import Derived.Test.YtapofohbngkekaaPoQ
import Derived.Test.YtapofohbngkekaaPoT
set_option maxRecDepth 100000
namespace Go.Proofs.Ytapofohbngkekaa
open Go.ChangeShapes Go.WideShapes Go.ChangeAt Go.RowKit
def StB (s : ST) (v : EV) (r : ST) (ts : List TL) (code : Int) : Prop := (¬ s.en = 0 ∧ r = zeroST ∧ ts = [] ∧ code = 17) ∨ (s.en = 0 ∧ StA s v r ts code)
theorem StB.uniq {s : ST} {v : EV} {r r' : ST} {ts ts' : List TL} {c c' : Int} (h : StB s v r ts c) (h' : StB s v r' ts' c') : r = r' ∧ ts = ts' ∧ c = c' := by
  rcases h with ⟨a, b1, b2, b3⟩ | ⟨a, ⟨p, b1, b2, b3⟩ | ⟨p, b3⟩⟩ <;> rcases h' with ⟨a', d1, d2, d3⟩ | ⟨a', ⟨p', d1, d2, d3⟩ | ⟨p', d3⟩⟩
  · exact ⟨b1.trans d1.symm, b2.trans d2.symm, b3.trans d3.symm⟩
  · exact absurd a' a
  · exact absurd a' a
  · exact absurd a a'
  · exact ⟨b1.trans d1.symm, b2.trans d2.symm, b3.trans d3.symm⟩
  · cases p.uniq p'
  · exact absurd a a'
  · cases p.uniq p'
  · have := p.uniq p'
    injection this with this
    injection this with e1 e2
    exact ⟨e1, e2, b3.trans d3.symm⟩
theorem StB.bounds {s : ST} {v : EV} {r : ST} {ts : List TL} {c : Int} {k : Nat} (h : StB s v r ts c) (hi : Inv k s) (hk : k ≤ 200) : r.fr.length ≤ 1000 ∧ r.pn.length ≤ 1000000 ∧ (∀ f ∈ r.fr, f.ds.length ≤ 1000000) ∧ ts.length ≤ 1000000 := by
  rcases h with ⟨_, rfl, rfl, _⟩ | ⟨h0, ⟨_, rfl, rfl, _⟩ | ⟨p, _⟩⟩
  · exact ⟨Nat.zero_le _, Nat.zero_le _, (by simp [zeroST]), Nat.zero_le _⟩
  · exact ⟨Nat.zero_le _, Nat.zero_le _, (by simp [zeroST]), Nat.zero_le _⟩
  · have h2 := p.keeps hi h0
    have h3 := p.len hi h0
    exact ⟨by have := h2.1.fr; omega, by have := h2.1.pn; omega, fun f hf => by have := (h2.1.ds f hf).1; omega, by omega⟩
/-- What a step answers, both ways. -/
def SpB (s : ST) (v : EV) (w : World) (e : Ending) (w' : World) : Prop :=
  ∃ (r : ST) (ts : List TL) (FA PA TA : Option Addr) (fc pc tc : Nat) (code : Int), StB s v r ts code ∧ e = .returned (.tuple #[stV (.slice FA r.fr.length fc) (.slice PA r.pn.length pc) r, .slice TA ts.length tc, .int .i64 code]) ∧ STm w' (fun b => w.heap.size ≤ b ∧ b < w'.heap.size) (.slice FA r.fr.length fc) (.slice PA r.pn.length pc) r ∧ RdM w' (fun b => w.heap.size ≤ b ∧ b < w'.heap.size) 7 TA ts.length (tlL ts) ∧ Below w.heap.size w w'
theorem spB_end {s : ST} {v : EV} {w w' : World} (h : ¬ s.en = 0) (hb : Below w.heap.size w w') : SpB s v w (.returned (.tuple #[stV (.slice none 0 0) (.slice none 0 0) zeroST, .slice none 0 0, .int .i64 17])) w' :=
  ⟨zeroST, [], none, none, none, 0, 0, 0, 17, .inl ⟨h, rfl, rfl, rfl⟩, rfl, zero_stm _ _, RdM.nil, hb⟩
set_option maxHeartbeats 4000000 in
theorem refStepB_any (FA PA : Option Addr) (nf fc np pc k : Nat) (s : ST) (v : EV) (A : Option Addr) (len cap : Nat) (w : World) (hs : STr w w.heap.size (.slice FA nf fc) (.slice PA np pc) s) (hi : Inv k s) (hk : k ≤ 50000) :
    Calls Try.prog 22 #[stV (.slice FA nf fc) (.slice PA np pc) s, evA v A len cap] w (SpB s v w) := by
  by_cases he : s.en = 0
  · refine (stepQ_any FA PA nf fc np pc k s v A len cap w hs hi hk he).mono fun e w' h => ?_
    obtain ⟨r, ts, FB, PB, TB, fd, pd, td, code, h1, h2, h3, h4, h5⟩ := h
    exact ⟨r, ts, FB, PB, TB, fd, pd, td, code, .inr ⟨he, h1⟩, h2, h3, h4, h5⟩
  · have b1 : (s.en != 0) = true := by rw [bne_iff_ne]; exact he
    have HE := Lib.hid he
    clear hs hi hk he
    go_enter Try.func22, Try.ntmps22
    go_wp2_with fail
    refine bodyPost_ret (v := .tuple #[stV (.slice none 0 0) (.slice none 0 0) zeroST, .slice none 0 0, .int .i64 17]) (by simp [results, Try.results22, go_sem, zeroST]) rfl ?_
    exact spB_end HE.out (by go_grown)
set_option maxHeartbeats 4000000 in
theorem progStepB_any (FA PA : Option Addr) (nf fc np pc k : Nat) (s : ST) (v : EV) (A : Option Addr) (len cap : Nat) (w : World) (hs : STr w w.heap.size (.slice FA nf fc) (.slice PA np pc) s) (hi : Inv k s) (hk : k ≤ 50000) :
    Calls Try.prog 20 #[stV (.slice FA nf fc) (.slice PA np pc) s, evA v A len cap] w (SpB s v w) := by
  by_cases he : s.en = 0
  · refine (step_anyM FA PA nf fc np pc k s v A len cap w hs hi hk he).mono fun e w' h => ?_
    obtain ⟨r, ts, FB, PB, TB, fd, pd, td, code, h1, h2, h3, h4, h5⟩ := spQ_of h
    exact ⟨r, ts, FB, PB, TB, fd, pd, td, code, .inr ⟨he, h1⟩, h2, h3, h4, h5⟩
  · have b1 : (s.en != 0) = true := by rw [bne_iff_ne]; exact he
    have HE := Lib.hid he
    clear hs hi hk he
    go_enter Try.func20, Try.ntmps20
    go_wp2_with fail
    refine bodyPost_ret (v := .tuple #[stV (.slice none 0 0) (.slice none 0 0) zeroST, .slice none 0 0, .int .i64 17]) (by simp [results, Try.results20, go_sem, zeroST]) rfl ?_
    exact spB_end HE.out (by go_grown)
set_option maxHeartbeats 16000000 in
theorem walkPanicsSteps (v0 v1 : Value) (w : World) (w0 : IsEvts w v0) (w1 : IsEvt w v1) : Calls Try.prog 5 #[v0, v1] w fun e w' => e = .returned (.bool true) ∧ Below w.heap.size w w' := by
  obtain ⟨l, hrd, hsz, hft⟩ := w0
  obtain ⟨A, c, ess, e, h9⟩ := id hrd
  simp only [List.cons.injEq, and_true] at e
  subst e
  obtain ⟨x, Ai, ci, rfl, hxr, hxf⟩ := w1
  obtain ⟨_, _, e8, hv8⟩ := EE.elim hxr
  obtain ⟨_, _, e7, hri, _⟩ := VV.elim hv8
  simp only [List.cons.injEq, and_true, true_and] at e7 e8
  injection e8 with e81 e82 e83
  injection e7 with e71 e72 e73
  subst e81 e83
  subst e71 e73
  have HRI := Lib.hid (hri.rd fun b hb => hb)
  have hxl : x.v.l.length * 8 ≤ 140737488351232 := hxf.2
  have HAT := Lib.hid (evs_at hrd).2.2
  obtain ⟨n, hn⟩ : ∃ n, l.length = n := ⟨_, rfl⟩
  have HN := Lib.hid hn
  rw [hn] at hsz ⊢
  clear hrd h9 hft hn hxr hxf hri hv8 e82 e72
  go_enter Try.func5, Try.ntmps5
  go_upto_region 1 with (fail)
  have HE1 := Lib.hid (show (w.alloc (.cells #[.int .i64 x.kind, .int .i64 x.n, .int .i64 x.v.k, .int .i64 x.v.n, .string x.v.s, .slice Ai x.v.l.length ci] 51)).heap[w.heap.size]? = some (.cells #[.int .i64 x.kind, .int .i64 x.n, .int .i64 x.v.k, .int .i64 x.v.n, .string x.v.s, .slice Ai x.v.l.length ci] 51 (0, 0)) from heap_alloc_new w _)
  have HB1 := Lib.hid (al (w := w) (.cells #[.int .i64 x.kind, .int .i64 x.n, .int .i64 x.v.k, .int .i64 x.v.n, .string x.v.s, .slice Ai x.v.l.length ci] 51))
  have HWA0 := Lib.hid (show w.heap.size ≤ (w.alloc (.cells #[.int .i64 x.kind, .int .i64 x.n, .int .i64 x.v.k, .int .i64 x.v.n, .string x.v.s, .slice Ai x.v.l.length ci] 51)).heap.size by simp)
  generalize w.alloc (.cells #[.int .i64 x.kind, .int .i64 x.n, .int .i64 x.v.k, .int .i64 x.v.n, .string x.v.s, .slice Ai x.v.l.length ci] 51) = wa at *
  go_wp2_with fail
  refine Calls.mono (state_any A n c l wa (fun i y hy => by
    obtain ⟨b, off, A9, c9, e, hlt, c0, c1, c2, c3, c4, c5, _⟩ := HAT.out i y hy
    have hb := HB1.out
    exact ⟨b, off, A9, c9, e, Nat.lt_of_lt_of_le hlt hb.size, (hb.cell (p := ⟨b, _, none⟩) hlt).trans c0, (hb.cell (p := ⟨b, _, none⟩) hlt).trans c1, (hb.cell (p := ⟨b, _, none⟩) hlt).trans c2, (hb.cell (p := ⟨b, _, none⟩) hlt).trans c3, (hb.cell (p := ⟨b, _, none⟩) hlt).trans c4, (hb.cell (p := ⟨b, _, none⟩) hlt).trans c5⟩) HN.out.symm (by omega)) ?_
  rintro e w2 ⟨k, s, FA, PA, fc, pc, hk, hin, rfl, hst, hb2⟩
  have HIN := Lib.hid hin
  have HWA := HWA0
  have HST := Lib.hid (hst.more (M' := fun b => w.heap.size + 1 ≤ b ∧ b < w2.heap.size) fun b hb => ⟨by have := HWA.out; have := hb.1; omega, hb.2⟩)
  have HE2 := Lib.hid ((hb2.block _ (Array.getElem?_eq_some_iff.1 HE1.out).1).trans HE1.out)
  have HB2 := Lib.hid (HB1.out.trans (hb2.mono HB1.out.size))
  clear hin hst hb2 HE1 HB1
  go_upto_region 2 with (fail)
  have HG3 := Lib.hid (show SB (w2.alloc (.cells #[.slice FA s.fr.length fc, .slice PA s.pn.length pc, .int .i64 ((s).next : Int), .int .i64 ((s).ser : Int), .int .i64 (s).en, .int .i64 (s).st] 56)) w2.heap.size (.slice FA s.fr.length fc) (.slice PA s.pn.length pc) s from heap_alloc_new w2 _)
  have HE3 := Lib.hid ((Lib.alloc_old w2 (.cells #[.slice FA s.fr.length fc, .slice PA s.pn.length pc, .int .i64 ((s).next : Int), .int .i64 ((s).ser : Int), .int .i64 (s).en, .int .i64 (s).st] 56) _ (Array.getElem?_eq_some_iff.1 HE2.out).1).trans HE2.out)
  have HS3 := Lib.hid ((HST.out.keep fun pa hp => (al (w := w2) (.cells #[.slice FA s.fr.length fc, .slice PA s.pn.length pc, .int .i64 ((s).next : Int), .int .i64 ((s).ser : Int), .int .i64 (s).en, .int .i64 (s).st] 56)).cell hp.2).more (M' := fun b => w.heap.size + 1 ≤ b ∧ b < (w2.alloc (.cells #[.slice FA s.fr.length fc, .slice PA s.pn.length pc, .int .i64 ((s).next : Int), .int .i64 ((s).ser : Int), .int .i64 (s).en, .int .i64 (s).st] 56)).heap.size) fun b hb => by simp; omega)
  have HB3 := Lib.hid (HB2.out.alloc HB2.out.size (.cells #[.slice FA s.fr.length fc, .slice PA s.pn.length pc, .int .i64 ((s).next : Int), .int .i64 ((s).ser : Int), .int .i64 (s).en, .int .i64 (s).st] 56))
  have HEG := Lib.hid (show w.heap.size < w2.heap.size from (Array.getElem?_eq_some_iff.1 HE2.out).1)
  clear HE2 HST HB2
  generalize w2.alloc (.cells #[.slice FA s.fr.length fc, .slice PA s.pn.length pc, .int .i64 ((s).next : Int), .int .i64 ((s).ser : Int), .int .i64 (s).en, .int .i64 (s).st] 56) = w3 at *
  generalize w2.heap.size = G at *
  have e2 : w3.cell? ⟨w.heap.size, 2, none⟩ = some (.int .i64 x.v.k) := by rw [Lib.cell_of_heap HE3.out]; rfl
  have e3 : w3.cell? ⟨w.heap.size, 3, none⟩ = some (.int .i64 x.v.n) := by rw [Lib.cell_of_heap HE3.out]; rfl
  have e4 : w3.cell? ⟨w.heap.size, 4, none⟩ = some (.string x.v.s) := by rw [Lib.cell_of_heap HE3.out]; rfl
  have e5 : w3.cell? ⟨w.heap.size, 5, none⟩ = some (.slice Ai x.v.l.length ci) := by rw [Lib.cell_of_heap HE3.out]; rfl
  have ez := (Array.getElem?_eq_some_iff.1 HE3.out).1
  go_wp2_with fail
  refine (own_any x.v.k x.v.n x.v.s Ai x.v.l.length ci x.v.l w3 ((HRI.out.below HB3.out).more HB3.out.size) (by omega)).mono ?_
  rintro e w4 ⟨A5, c5, rfl, hown5, hb4⟩
  have HE4 := Lib.hid ((hb4.block _ ez).trans HE3.out)
  have HG4 := Lib.hid (SB.to HG3.out (hb4.block _ HG3.out.lt))
  have HS4 := Lib.hid ((HS3.out.keep fun pa hp => hb4.cell hp.2).more (M' := fun b => w.heap.size + 1 ≤ b ∧ b < w4.heap.size) fun b hb => by have := hb4.size; omega)
  have HB4 := Lib.hid (HB3.out.trans (hb4.mono HB3.out.size))
  clear hown5 hb4 e2 e3 e4 e5 ez HE3 HG3 HB3
  have e0 : w4.cell? ⟨w.heap.size, 0, none⟩ = some (.int .i64 x.kind) := by rw [Lib.cell_of_heap HE4.out]; rfl
  have e1 : w4.cell? ⟨w.heap.size, 1, none⟩ = some (.int .i64 x.n) := by rw [Lib.cell_of_heap HE4.out]; rfl
  have e2 : w4.cell? ⟨w.heap.size, 2, none⟩ = some (.int .i64 x.v.k) := by rw [Lib.cell_of_heap HE4.out]; rfl
  have e3 : w4.cell? ⟨w.heap.size, 3, none⟩ = some (.int .i64 x.v.n) := by rw [Lib.cell_of_heap HE4.out]; rfl
  have e4 : w4.cell? ⟨w.heap.size, 4, none⟩ = some (.string x.v.s) := by rw [Lib.cell_of_heap HE4.out]; rfl
  have e5 : w4.cell? ⟨w.heap.size, 5, none⟩ = some (.slice Ai x.v.l.length ci) := by rw [Lib.cell_of_heap HE4.out]; rfl
  have z2 := Lib.frozen_of_heap HE4.out 2
  have z3 := Lib.frozen_of_heap HE4.out 3
  have z4 := Lib.frozen_of_heap HE4.out 4
  have z5 := Lib.frozen_of_heap HE4.out 5
  have ez := (Array.getElem?_eq_some_iff.1 HE4.out).1
  go_upto_region 3 with (fail)
  have HE5 := Lib.hid (show ((((w4.setCell ⟨w.heap.size, 2, none⟩ (.int .i64 x.v.k)).setCell ⟨w.heap.size, 3, none⟩ (.int .i64 x.v.n)).setCell ⟨w.heap.size, 4, none⟩ (.string x.v.s)).setCell ⟨w.heap.size, 5, none⟩ (.slice A5 x.v.l.length c5)).heap[w.heap.size]? = some (.cells #[.int .i64 x.kind, .int .i64 x.n, .int .i64 x.v.k, .int .i64 x.v.n, .string x.v.s, .slice A5 x.v.l.length c5] 51 (0, 0)) from heap_setN (heap_setN (heap_setN (heap_setN HE4.out _) _) _) _)
  have hk5 : ∀ z, z ≠ w.heap.size → ((((w4.setCell ⟨w.heap.size, 2, none⟩ (.int .i64 x.v.k)).setCell ⟨w.heap.size, 3, none⟩ (.int .i64 x.v.n)).setCell ⟨w.heap.size, 4, none⟩ (.string x.v.s)).setCell ⟨w.heap.size, 5, none⟩ (.slice A5 x.v.l.length c5)).heap[z]? = w4.heap[z]? := fun z hz => by rw [sc_keep hz, sc_keep hz, sc_keep hz, sc_keep hz]
  have HG5 := Lib.hid (SB.to HG4.out (hk5 G (by have := HEG.out; omega)))
  have HS5 := Lib.hid ((HS4.out.keep (w' := (((w4.setCell ⟨w.heap.size, 2, none⟩ (.int .i64 x.v.k)).setCell ⟨w.heap.size, 3, none⟩ (.int .i64 x.v.n)).setCell ⟨w.heap.size, 4, none⟩ (.string x.v.s)).setCell ⟨w.heap.size, 5, none⟩ (.slice A5 x.v.l.length c5)) fun pa hp => World.cell?_of_block (hk5 pa.block (by omega))).more (M' := fun b => w.heap.size + 1 ≤ b ∧ b < ((((w4.setCell ⟨w.heap.size, 2, none⟩ (.int .i64 x.v.k)).setCell ⟨w.heap.size, 3, none⟩ (.int .i64 x.v.n)).setCell ⟨w.heap.size, 4, none⟩ (.string x.v.s)).setCell ⟨w.heap.size, 5, none⟩ (.slice A5 x.v.l.length c5)).heap.size) fun b hb => by simp; exact hb)
  have HB5 := Lib.hid ((((HB4.out.setCell (p := ⟨w.heap.size, 2, none⟩) (Nat.le_refl _) (.int .i64 x.v.k)).setCell (p := ⟨w.heap.size, 3, none⟩) (Nat.le_refl _) (.int .i64 x.v.n)).setCell (p := ⟨w.heap.size, 4, none⟩) (Nat.le_refl _) (.string x.v.s)).setCell (p := ⟨w.heap.size, 5, none⟩) (Nat.le_refl _) (.slice A5 x.v.l.length c5))
  clear e0 e1 e2 e3 e4 e5 z2 z3 z4 z5 ez hk5 HE4 HG4 HS4 HB4
  generalize (((w4.setCell ⟨w.heap.size, 2, none⟩ (.int .i64 x.v.k)).setCell ⟨w.heap.size, 3, none⟩ (.int .i64 x.v.n)).setCell ⟨w.heap.size, 4, none⟩ (.string x.v.s)).setCell ⟨w.heap.size, 5, none⟩ (.slice A5 x.v.l.length c5) = w5 at *
  have HSW := Lib.hid (fun (W : World) (hW : Below w5.heap.size w5 W) => show STr W W.heap.size (.slice FA s.fr.length fc) (.slice PA s.pn.length pc) s from (HS5.out.keep fun pa hp => hW.cell hp.2).r fun b hb => Nat.lt_of_lt_of_le hb.2 hW.size)
  have hgz := HG5.out.lt
  have hez := (Array.getElem?_eq_some_iff.1 HE5.out).1
  have hfr := HIN.out.1.fr
  have hpn := HIN.out.1.pn
  have HOK := Lib.hid (show ∀ p ∈ s.pn, PnOk p from HIN.out.1.ok)
  have HDS := Lib.hid (show ∀ f ∈ s.fr, f.ds.length ≤ 100000 from fun f hf => by have := (HIN.out.1.ds f hf).1; omega)
  have x0 := HG5.out.c0
  have x1 := HG5.out.c1
  have x2 := HG5.out.c2
  have x3 := HG5.out.c3
  have x4 := HG5.out.c4
  have x5 := HG5.out.c5
  have e0 : w5.cell? ⟨w.heap.size, 0, none⟩ = some (.int .i64 x.kind) := by rw [Lib.cell_of_heap HE5.out]; rfl
  have e1 : w5.cell? ⟨w.heap.size, 1, none⟩ = some (.int .i64 x.n) := by rw [Lib.cell_of_heap HE5.out]; rfl
  have e2 : w5.cell? ⟨w.heap.size, 2, none⟩ = some (.int .i64 x.v.k) := by rw [Lib.cell_of_heap HE5.out]; rfl
  have e3 : w5.cell? ⟨w.heap.size, 3, none⟩ = some (.int .i64 x.v.n) := by rw [Lib.cell_of_heap HE5.out]; rfl
  have e4 : w5.cell? ⟨w.heap.size, 4, none⟩ = some (.string x.v.s) := by rw [Lib.cell_of_heap HE5.out]; rfl
  have e5 : w5.cell? ⟨w.heap.size, 5, none⟩ = some (.slice A5 x.v.l.length c5) := by rw [Lib.cell_of_heap HE5.out]; rfl
  have hn1 : w5.heap.size ≠ G := by omega
  have hn1' : G ≠ w5.heap.size := by omega
  have hn2 : w5.heap.size ≠ w.heap.size := by omega
  have hn2' : w.heap.size ≠ w5.heap.size := by omega
  go_wp2_with fail
  go_region_held3 (fun w' => w'.cell? ⟨G, 0, none⟩ = some (.slice FA s.fr.length fc) ∧ w'.cell? ⟨G, 1, none⟩ = some (.slice PA s.pn.length pc) ∧ w'.cell? ⟨G, 2, none⟩ = some (.int .i64 (s.next : Int)) ∧ w'.cell? ⟨G, 3, none⟩ = some (.int .i64 (s.ser : Int)) ∧ w'.cell? ⟨G, 4, none⟩ = some (.int .i64 s.en) ∧ w'.cell? ⟨G, 5, none⟩ = some (.int .i64 s.st) ∧ w'.cell? ⟨w.heap.size, 0, none⟩ = some (.int .i64 x.kind) ∧ w'.cell? ⟨w.heap.size, 1, none⟩ = some (.int .i64 x.n) ∧ w'.cell? ⟨w.heap.size, 2, none⟩ = some (.int .i64 x.v.k) ∧ w'.cell? ⟨w.heap.size, 3, none⟩ = some (.int .i64 x.v.n) ∧ w'.cell? ⟨w.heap.size, 4, none⟩ = some (.string x.v.s) ∧ w'.cell? ⟨w.heap.size, 5, none⟩ = some (.slice A5 x.v.l.length c5)) (go_keep)
    (first
      | (go_at_call 21; refine (copyState_any FA PA s.fr.length fc s.pn.length pc s _ (HSW.out _ ((Below.refl w5.heap.size w5).drew)) HOK.out (by omega) (by omega) HDS.out).mono ?_; rintro e w6 ⟨fvc, pvc, dsc, rfl, hfo, hpo, hb6⟩; obtain ⟨FC, fcc, rfl⟩ := own_form hfo.row; obtain ⟨PC, pcc, rfl⟩ := own_form hpo; have HB6 := Lib.hid (show Below w5.heap.size w5 w6 from ((Below.refl w5.heap.size w5).drew).trans (hb6.mono (Nat.le_refl _))); have HSC := Lib.hid (STr.of hfo hpo); have x0 := (HB6.out.cell (p := ⟨G, 0, none⟩) hgz).trans x0; have x1 := (HB6.out.cell (p := ⟨G, 1, none⟩) hgz).trans x1; have x2 := (HB6.out.cell (p := ⟨G, 2, none⟩) hgz).trans x2; have x3 := (HB6.out.cell (p := ⟨G, 3, none⟩) hgz).trans x3; have x4 := (HB6.out.cell (p := ⟨G, 4, none⟩) hgz).trans x4; have x5 := (HB6.out.cell (p := ⟨G, 5, none⟩) hgz).trans x5; have e0 := (HB6.out.cell (p := ⟨w.heap.size, 0, none⟩) hez).trans e0; have e1 := (HB6.out.cell (p := ⟨w.heap.size, 1, none⟩) hez).trans e1; have e2 := (HB6.out.cell (p := ⟨w.heap.size, 2, none⟩) hez).trans e2; have e3 := (HB6.out.cell (p := ⟨w.heap.size, 3, none⟩) hez).trans e3; have e4 := (HB6.out.cell (p := ⟨w.heap.size, 4, none⟩) hez).trans e4; have e5 := (HB6.out.cell (p := ⟨w.heap.size, 5, none⟩) hez).trans e5; have hgz6 : G < w6.heap.size := Nat.lt_of_lt_of_le hgz HB6.out.size; have hez6 : w.heap.size < w6.heap.size := Nat.lt_of_lt_of_le hez HB6.out.size; have hm1 : w6.heap.size ≠ G := Nat.ne_of_gt hgz6; have hm1' : G ≠ w6.heap.size := Nat.ne_of_lt hgz6; have hm2 : w6.heap.size ≠ w.heap.size := Nat.ne_of_gt hez6; have hm2' : w.heap.size ≠ w6.heap.size := Nat.ne_of_lt hez6; clear hfo hpo hb6)
      | (go_at_call 21; refine (copyState_any FA PA s.fr.length fc s.pn.length pc s _ (HSW.out _ ((al (w := w5) (.cells #[.slice none 0 0, .slice none 0 0, .int .i64 0, .int .i64 0, .int .i64 0, .int .i64 0] 56)).drew)) HOK.out (by omega) (by omega) HDS.out).mono ?_; rintro e w6 ⟨fvc, pvc, dsc, rfl, hfo, hpo, hb6⟩; obtain ⟨FC, fcc, rfl⟩ := own_form hfo.row; obtain ⟨PC, pcc, rfl⟩ := own_form hpo; have HB6 := Lib.hid (show Below w5.heap.size w5 w6 from ((al (w := w5) (.cells #[.slice none 0 0, .slice none 0 0, .int .i64 0, .int .i64 0, .int .i64 0, .int .i64 0] 56)).drew).trans (hb6.mono (by simp))); have HSC := Lib.hid (STr.of hfo hpo); have x0 := (HB6.out.cell (p := ⟨G, 0, none⟩) hgz).trans x0; have x1 := (HB6.out.cell (p := ⟨G, 1, none⟩) hgz).trans x1; have x2 := (HB6.out.cell (p := ⟨G, 2, none⟩) hgz).trans x2; have x3 := (HB6.out.cell (p := ⟨G, 3, none⟩) hgz).trans x3; have x4 := (HB6.out.cell (p := ⟨G, 4, none⟩) hgz).trans x4; have x5 := (HB6.out.cell (p := ⟨G, 5, none⟩) hgz).trans x5; have e0 := (HB6.out.cell (p := ⟨w.heap.size, 0, none⟩) hez).trans e0; have e1 := (HB6.out.cell (p := ⟨w.heap.size, 1, none⟩) hez).trans e1; have e2 := (HB6.out.cell (p := ⟨w.heap.size, 2, none⟩) hez).trans e2; have e3 := (HB6.out.cell (p := ⟨w.heap.size, 3, none⟩) hez).trans e3; have e4 := (HB6.out.cell (p := ⟨w.heap.size, 4, none⟩) hez).trans e4; have e5 := (HB6.out.cell (p := ⟨w.heap.size, 5, none⟩) hez).trans e5; have hgz6 : G < w6.heap.size := Nat.lt_of_lt_of_le hgz HB6.out.size; have hez6 : w.heap.size < w6.heap.size := Nat.lt_of_lt_of_le hez HB6.out.size; have HQ6 := Lib.hid (show w6.heap[w5.heap.size]? = some (.cells #[.slice none 0 0, .slice none 0 0, .int .i64 0, .int .i64 0, .int .i64 0, .int .i64 0] 56 (0, 0)) from (hb6.block w5.heap.size (by simp)).trans (heap_alloc_new w5 _)); clear hfo hpo hb6)
      | (have HQ6' := HQ6; go_at_call 20; refine (progStepB_any FC PC s.fr.length fcc s.pn.length pcc k s (toEV x) A5 x.v.l.length c5 _ HSC.out HIN.out (by omega)).mono ?_; rintro e w7 ⟨r, ts, FB, PB, TB, fd, pd, td, code, hsa, rfl, hS, hT, hb7⟩; have HB7 := Lib.hid (show Below w6.heap.size w6 w7 from hb7); have x0 := (HB7.out.cell (p := ⟨G, 0, none⟩) hgz6).trans x0; have x1 := (HB7.out.cell (p := ⟨G, 1, none⟩) hgz6).trans x1; have x2 := (HB7.out.cell (p := ⟨G, 2, none⟩) hgz6).trans x2; have x3 := (HB7.out.cell (p := ⟨G, 3, none⟩) hgz6).trans x3; have x4 := (HB7.out.cell (p := ⟨G, 4, none⟩) hgz6).trans x4; have x5 := (HB7.out.cell (p := ⟨G, 5, none⟩) hgz6).trans x5; have e0 := (HB7.out.cell (p := ⟨w.heap.size, 0, none⟩) hez6).trans e0; have e1 := (HB7.out.cell (p := ⟨w.heap.size, 1, none⟩) hez6).trans e1; have e2 := (HB7.out.cell (p := ⟨w.heap.size, 2, none⟩) hez6).trans e2; have e3 := (HB7.out.cell (p := ⟨w.heap.size, 3, none⟩) hez6).trans e3; have e4 := (HB7.out.cell (p := ⟨w.heap.size, 4, none⟩) hez6).trans e4; have e5 := (HB7.out.cell (p := ⟨w.heap.size, 5, none⟩) hez6).trans e5; have HSS := Lib.hid hS; have HTT := Lib.hid hT; have HQ7 := Lib.hid (show w7.heap[w5.heap.size]? = some (.cells #[.slice none 0 0, .slice none 0 0, .int .i64 0, .int .i64 0, .int .i64 0, .int .i64 0] 56 (0, 0)) from (HB7.out.block _ (Array.getElem?_eq_some_iff.1 HQ6.out).1).trans HQ6.out); have q0 := Lib.cell_of_heap HQ7.out 0; have qz0 := Lib.frozen_of_heap HQ7.out 0; have q1 := Lib.cell_of_heap HQ7.out 1; have qz1 := Lib.frozen_of_heap HQ7.out 1; have q2 := Lib.cell_of_heap HQ7.out 2; have qz2 := Lib.frozen_of_heap HQ7.out 2; have q3 := Lib.cell_of_heap HQ7.out 3; have qz3 := Lib.frozen_of_heap HQ7.out 3; have q4 := Lib.cell_of_heap HQ7.out 4; have qz4 := Lib.frozen_of_heap HQ7.out 4; have q5 := Lib.cell_of_heap HQ7.out 5; have qz5 := Lib.frozen_of_heap HQ7.out 5; simp at q0 q1 q2 q3 q4 q5; have qlt := (Array.getElem?_eq_some_iff.1 HQ7.out).1; clear hS hT hb7)
      | (go_at_call 20; refine (progStepB_any FC PC s.fr.length fcc s.pn.length pcc k s (toEV x) A5 x.v.l.length c5 _ ((HSC.out.into (al (w := w6) (.cells #[.slice none 0 0, .slice none 0 0, .int .i64 0, .int .i64 0, .int .i64 0, .int .i64 0] 56))).more (al (w := w6) (.cells #[.slice none 0 0, .slice none 0 0, .int .i64 0, .int .i64 0, .int .i64 0, .int .i64 0] 56)).size) HIN.out (by omega)).mono ?_; rintro e w7 ⟨r, ts, FB, PB, TB, fd, pd, td, code, hsa, rfl, hS, hT, hb7⟩; have HB7 := Lib.hid (show Below w6.heap.size w6 w7 from (al (w := w6) (.cells #[.slice none 0 0, .slice none 0 0, .int .i64 0, .int .i64 0, .int .i64 0, .int .i64 0] 56)).trans (hb7.mono (by simp))); have x0 := (HB7.out.cell (p := ⟨G, 0, none⟩) hgz6).trans x0; have x1 := (HB7.out.cell (p := ⟨G, 1, none⟩) hgz6).trans x1; have x2 := (HB7.out.cell (p := ⟨G, 2, none⟩) hgz6).trans x2; have x3 := (HB7.out.cell (p := ⟨G, 3, none⟩) hgz6).trans x3; have x4 := (HB7.out.cell (p := ⟨G, 4, none⟩) hgz6).trans x4; have x5 := (HB7.out.cell (p := ⟨G, 5, none⟩) hgz6).trans x5; have e0 := (HB7.out.cell (p := ⟨w.heap.size, 0, none⟩) hez6).trans e0; have e1 := (HB7.out.cell (p := ⟨w.heap.size, 1, none⟩) hez6).trans e1; have e2 := (HB7.out.cell (p := ⟨w.heap.size, 2, none⟩) hez6).trans e2; have e3 := (HB7.out.cell (p := ⟨w.heap.size, 3, none⟩) hez6).trans e3; have e4 := (HB7.out.cell (p := ⟨w.heap.size, 4, none⟩) hez6).trans e4; have e5 := (HB7.out.cell (p := ⟨w.heap.size, 5, none⟩) hez6).trans e5; have HSS := Lib.hid hS; have HTT := Lib.hid hT; have HQ7 := Lib.hid (show w7.heap[w6.heap.size]? = some (.cells #[.slice none 0 0, .slice none 0 0, .int .i64 0, .int .i64 0, .int .i64 0, .int .i64 0] 56 (0, 0)) from (hb7.block w6.heap.size (by simp)).trans (heap_alloc_new w6 _)); have q0 := Lib.cell_of_heap HQ7.out 0; have qz0 := Lib.frozen_of_heap HQ7.out 0; have q1 := Lib.cell_of_heap HQ7.out 1; have qz1 := Lib.frozen_of_heap HQ7.out 1; have q2 := Lib.cell_of_heap HQ7.out 2; have qz2 := Lib.frozen_of_heap HQ7.out 2; have q3 := Lib.cell_of_heap HQ7.out 3; have qz3 := Lib.frozen_of_heap HQ7.out 3; have q4 := Lib.cell_of_heap HQ7.out 4; have qz4 := Lib.frozen_of_heap HQ7.out 4; have q5 := Lib.cell_of_heap HQ7.out 5; have qz5 := Lib.frozen_of_heap HQ7.out 5; simp at q0 q1 q2 q3 q4 q5; have qlt := (Array.getElem?_eq_some_iff.1 HQ7.out).1; clear hS hT hb7)
      | (go_at_call 20; refine (progStepB_any FC PC s.fr.length fcc s.pn.length pcc k s (toEV x) A5 x.v.l.length c5 _ HSC.out HIN.out (by omega)).mono ?_; rintro e w7 ⟨r, ts, FB, PB, TB, fd, pd, td, code, hsa, rfl, hS, hT, hb7⟩; have HB7 := Lib.hid (show Below w6.heap.size w6 w7 from hb7); have x0 := (HB7.out.cell (p := ⟨G, 0, none⟩) hgz6).trans x0; have x1 := (HB7.out.cell (p := ⟨G, 1, none⟩) hgz6).trans x1; have x2 := (HB7.out.cell (p := ⟨G, 2, none⟩) hgz6).trans x2; have x3 := (HB7.out.cell (p := ⟨G, 3, none⟩) hgz6).trans x3; have x4 := (HB7.out.cell (p := ⟨G, 4, none⟩) hgz6).trans x4; have x5 := (HB7.out.cell (p := ⟨G, 5, none⟩) hgz6).trans x5; have e0 := (HB7.out.cell (p := ⟨w.heap.size, 0, none⟩) hez6).trans e0; have e1 := (HB7.out.cell (p := ⟨w.heap.size, 1, none⟩) hez6).trans e1; have e2 := (HB7.out.cell (p := ⟨w.heap.size, 2, none⟩) hez6).trans e2; have e3 := (HB7.out.cell (p := ⟨w.heap.size, 3, none⟩) hez6).trans e3; have e4 := (HB7.out.cell (p := ⟨w.heap.size, 4, none⟩) hez6).trans e4; have e5 := (HB7.out.cell (p := ⟨w.heap.size, 5, none⟩) hez6).trans e5; have HSS := Lib.hid hS; have HTT := Lib.hid hT; clear hS hT hb7))
  · have HSA := Lib.hid hsa
    have HB57 := Lib.hid (HB6.out.trans (HB7.out.mono HB6.out.size))
    have HG7 := Lib.hid (SB.to HG5.out (HB57.out.block _ HG5.out.lt))
    have HE7 := Lib.hid ((HB57.out.block _ (Array.getElem?_eq_some_iff.1 HE5.out).1).trans HE5.out)
    have HS7 := Lib.hid (HS5.out.keep fun pa hp => HB57.out.cell hp.2)
    have HBW7 := Lib.hid (HB5.out.trans (HB57.out.mono HB5.out.size))
    have HZ7 := Lib.hid (show w5.heap.size ≤ w6.heap.size ∧ w6.heap.size ≤ w7.heap.size from ⟨HB6.out.size, HB7.out.size⟩)
    have hgl : G < w5.heap.size := hgz
    have hel : w.heap.size < w5.heap.size := hez
    clear hsa x0 x1 x2 x3 x4 x5 e0 e1 e2 e3 e4 e5 hn1 hn1' hn2 hn2'
    clear hm1 hm1' hm2 hm2'
    have HA8 := Lib.hid (al (w := w7) (.cells #[.slice FB r.fr.length fd, .slice PB r.pn.length pd, .int .i64 (r.next : Int), .int .i64 (r.ser : Int), .int .i64 r.en, .int .i64 r.st] 56))
    have HQ8 := Lib.hid (show SB (w7.alloc (.cells #[.slice FB r.fr.length fd, .slice PB r.pn.length pd, .int .i64 (r.next : Int), .int .i64 (r.ser : Int), .int .i64 r.en, .int .i64 r.st] 56)) w7.heap.size (.slice FB r.fr.length fd) (.slice PB r.pn.length pd) r from heap_alloc_new w7 _)
    have HG8 := Lib.hid (SB.to HG7.out (HA8.out.block _ HG7.out.lt))
    have HE8 := Lib.hid ((HA8.out.block _ (Array.getElem?_eq_some_iff.1 HE7.out).1).trans HE7.out)
    have HSs8 := Lib.hid ((HS7.out.keep fun pa hp => HA8.out.cell (by have := hp.2; have := HZ7.out; omega)).r (B := (w7.alloc (.cells #[.slice FB r.fr.length fd, .slice PB r.pn.length pd, .int .i64 (r.next : Int), .int .i64 (r.ser : Int), .int .i64 r.en, .int .i64 r.st] 56)).heap.size) fun b hb => by have := hb.2; have := HZ7.out; have := HA8.out.size; omega)
    have HSr8 := Lib.hid ((HSS.out.keep fun pa hp => HA8.out.cell hp.2).r (B := (w7.alloc (.cells #[.slice FB r.fr.length fd, .slice PB r.pn.length pd, .int .i64 (r.next : Int), .int .i64 (r.ser : Int), .int .i64 r.en, .int .i64 r.st] 56)).heap.size) fun b hb => by have := hb.2; have := HA8.out.size; omega)
    have HTr8 := Lib.hid ((HTT.out.keep fun pa hp => HA8.out.cell hp.2).rd (B := (w7.alloc (.cells #[.slice FB r.fr.length fd, .slice PB r.pn.length pd, .int .i64 (r.next : Int), .int .i64 (r.ser : Int), .int .i64 r.en, .int .i64 r.st] 56)).heap.size) fun b hb => by have := hb.2; have := HA8.out.size; omega)
    have HB8 := Lib.hid (HBW7.out.trans (HA8.out.mono HBW7.out.size))
    clear HSS HTT HG7 HE7 HS7 HBW7 HA8
    generalize w7.alloc (.cells #[.slice FB r.fr.length fd, .slice PB r.pn.length pd, .int .i64 (r.next : Int), .int .i64 (r.ser : Int), .int .i64 r.en, .int .i64 r.st] 56) = w8 at *
    generalize w7.heap.size = gq at *
    have x0 := HG8.out.c0
    have x1 := HG8.out.c1
    have x2 := HG8.out.c2
    have x3 := HG8.out.c3
    have x4 := HG8.out.c4
    have x5 := HG8.out.c5
    have e0 : w8.cell? ⟨w.heap.size, 0, none⟩ = some (.int .i64 x.kind) := by rw [Lib.cell_of_heap HE8.out]; rfl
    have e1 : w8.cell? ⟨w.heap.size, 1, none⟩ = some (.int .i64 x.n) := by rw [Lib.cell_of_heap HE8.out]; rfl
    have e2 : w8.cell? ⟨w.heap.size, 2, none⟩ = some (.int .i64 x.v.k) := by rw [Lib.cell_of_heap HE8.out]; rfl
    have e3 : w8.cell? ⟨w.heap.size, 3, none⟩ = some (.int .i64 x.v.n) := by rw [Lib.cell_of_heap HE8.out]; rfl
    have e4 : w8.cell? ⟨w.heap.size, 4, none⟩ = some (.string x.v.s) := by rw [Lib.cell_of_heap HE8.out]; rfl
    have e5 : w8.cell? ⟨w.heap.size, 5, none⟩ = some (.slice A5 x.v.l.length c5) := by rw [Lib.cell_of_heap HE8.out]; rfl
    have hgz8 := HG8.out.lt
    have hez8 := (Array.getElem?_eq_some_iff.1 HE8.out).1
    go_wp2_with fail
    refine Calls.mono (refStepB_any FA PA s.fr.length fc s.pn.length pc k s (toEV x) A5 x.v.l.length c5 w8 HSs8.out HIN.out (by omega)) ?_
    rintro e w9 ⟨r', ts', FD, PD, TD, fe, pe, te, code', hsa', rfl, hS', hT', hb9⟩
    obtain ⟨rfl, rfl, rfl⟩ := HSA.out.uniq hsa'
    have HQ9 := Lib.hid (SB.to HQ8.out (hb9.block _ HQ8.out.lt))
    have HSr9 := Lib.hid ((HSr8.out.into hb9).more hb9.size)
    have HTr9 := Lib.hid ((HTr8.out.below hb9).more hb9.size)
    have HSd9 := Lib.hid (hS'.r fun b hb => hb.2)
    have HTd9 := Lib.hid (hT'.rd fun b hb => hb.2)
    have HB9 := Lib.hid (HB8.out.trans (hb9.mono HB8.out.size))
    clear hsa' hS' hT' hb9 x0 x1 x2 x3 x4 x5 e0 e1 e2 e3 e4 e5 hgz8 hez8 HQ8 HG8 HE8 HSs8 HSr8 HTr8 HB8
    go_upto_region 5 with (fail)
    have HA10 := Lib.hid (al (w := w9) (.cells #[.slice FD r.fr.length fe, .slice PD r.pn.length pe, .int .i64 (r.next : Int), .int .i64 (r.ser : Int), .int .i64 r.en, .int .i64 r.st] 56))
    have HD10 := Lib.hid (show SB (w9.alloc (.cells #[.slice FD r.fr.length fe, .slice PD r.pn.length pe, .int .i64 (r.next : Int), .int .i64 (r.ser : Int), .int .i64 r.en, .int .i64 r.st] 56)) w9.heap.size (.slice FD r.fr.length fe) (.slice PD r.pn.length pe) r from heap_alloc_new w9 _)
    have HQ10 := Lib.hid (SB.to HQ9.out (HA10.out.block _ HQ9.out.lt))
    have HSr10 := Lib.hid ((HSr9.out.into HA10.out).more HA10.out.size)
    have HTr10 := Lib.hid ((HTr9.out.below HA10.out).more HA10.out.size)
    have HSd10 := Lib.hid ((HSd9.out.into HA10.out).more HA10.out.size)
    have HTd10 := Lib.hid ((HTd9.out.below HA10.out).more HA10.out.size)
    have HB10 := Lib.hid (HB9.out.trans (HA10.out.mono HB9.out.size))
    clear HQ9 HSr9 HTr9 HSd9 HTd9 HB9 HA10
    generalize w9.alloc (.cells #[.slice FD r.fr.length fe, .slice PD r.pn.length pe, .int .i64 (r.next : Int), .int .i64 (r.ser : Int), .int .i64 r.en, .int .i64 r.st] 56) = w10 at *
    generalize w9.heap.size = gd at *
    have hcc : (code == code) = true := beq_self_eq_true _
    have HBD := Lib.hid (HSA.out.bounds HIN.out hk)
    have x0 := HQ10.out.c0
    have x1 := HQ10.out.c1
    have x2 := HQ10.out.c2
    have x3 := HQ10.out.c3
    have x4 := HQ10.out.c4
    have x5 := HQ10.out.c5
    have y0 := HD10.out.c0
    have y1 := HD10.out.c1
    have y2 := HD10.out.c2
    have y3 := HD10.out.c3
    have y4 := HD10.out.c4
    have y5 := HD10.out.c5
    have gaz := HQ10.out.lt
    have gbz := HD10.out.lt
    go_wp2_with fail
    refine Calls.mono (sameState_any FB PB FD PD r.fr.length fd r.pn.length pd r.fr.length fe r.pn.length pe r w10 HSr10.out HSd10.out HBD.out.1 HBD.out.2.1 HBD.out.2.2.1) ?_
    rintro e w11 ⟨rfl, hb11⟩
    have HT11 := Lib.hid ((HTr10.out.below hb11).more hb11.size)
    have HTB11 := Lib.hid ((HTd10.out.below hb11).more hb11.size)
    have HB11 := Lib.hid (HB10.out.trans (hb11.mono HB10.out.size))
    clear hb11 x0 x1 x2 x3 x4 x5 y0 y1 y2 y3 y4 y5 gaz gbz
    go_wp2_with fail
    refine Calls.mono (sameTl_any TB TD ts.length ts.length td te ts w11 HT11.out HTB11.out rfl rfl HBD.out.2.2.2) ?_
    rintro e w12 ⟨rfl, hb12⟩
    have HB12 := Lib.hid (HB11.out.trans (hb12.mono HB11.out.size))
    clear hb12
    go_wp2_with fail
    refine Calls.mono (panicsBegin_new w12) ?_
    rintro e w13 ⟨gg, rfl, _, _, hb13⟩
    have HB13 := Lib.hid (HB12.out.trans (hb13.mono HB12.out.size))
    clear hb13
    have hfl : ∀ w, (Instr.field 56 (.agg #[.slice (some ⟨gg, 0, none⟩) 1 1, .slice none 0 0, .int .i64 1, .int .i64 0, .int .i64 0, .int .i64 0]) 2).run Try.prog w = .ok (.int .i64 1) w := fun w => by kernel_rfl
    go_wp2_with fail
    go_ret
    exact ⟨rfl, HB13.out⟩
  · have HSA := Lib.hid hsa
    have HB57 := Lib.hid (HB6.out.trans (HB7.out.mono HB6.out.size))
    have HG7 := Lib.hid (SB.to HG5.out (HB57.out.block _ HG5.out.lt))
    have HE7 := Lib.hid ((HB57.out.block _ (Array.getElem?_eq_some_iff.1 HE5.out).1).trans HE5.out)
    have HS7 := Lib.hid (HS5.out.keep fun pa hp => HB57.out.cell hp.2)
    have HBW7 := Lib.hid (HB5.out.trans (HB57.out.mono HB5.out.size))
    have HZ7 := Lib.hid (show w5.heap.size ≤ w6.heap.size ∧ w6.heap.size ≤ w7.heap.size from ⟨HB6.out.size, HB7.out.size⟩)
    have hgl : G < w5.heap.size := hgz
    have hel : w.heap.size < w5.heap.size := hez
    clear hsa x0 x1 x2 x3 x4 x5 e0 e1 e2 e3 e4 e5 hn1 hn1' hn2 hn2'
    clear hm1 hm1' hm2 hm2'
    clear q0 q1 q2 q3 q4 q5 qz0 qz1 qz2 qz3 qz4 qz5
    obtain ⟨w8, hw8, b8, k8, l8, s8⟩ := six_at (w := w7) (g := w6.heap.size) (.slice FB r.fr.length fd) (.slice PB r.pn.length pd) (.int .i64 (r.next : Int)) (.int .i64 (r.ser : Int)) (.int .i64 r.en) (.int .i64 r.st) HQ7.out
    rw [← hw8]
    have HQ8 := Lib.hid (show SB w8 w6.heap.size (.slice FB r.fr.length fd) (.slice PB r.pn.length pd) r from b8)
    have HG8 := Lib.hid (SB.to HG7.out (k8 G (by have := HZ7.out; omega)))
    have HE8 := Lib.hid ((k8 w.heap.size (by have := HZ7.out; omega)).trans HE7.out)
    have HSs8 := Lib.hid ((HS7.out.keep (w' := w8) fun pa hp => World.cell?_of_block (k8 pa.block (by have := hp.2; have := HZ7.out; omega))).r (B := w8.heap.size) fun b hb => by have := hb.2; have := HZ7.out; rw [s8]; omega)
    have HSr8 := Lib.hid ((HSS.out.keep (w' := w8) fun pa hp => World.cell?_of_block (k8 pa.block (by have h1 := hp.1; have := HZ7.out; (try simp at h1); omega))).r (B := w8.heap.size) fun b hb => by rw [s8]; exact hb.2)
    have HTr8 := Lib.hid ((HTT.out.keep (w' := w8) fun pa hp => World.cell?_of_block (k8 pa.block (by have h1 := hp.1; have := HZ7.out; (try simp at h1); omega))).rd (B := w8.heap.size) fun b hb => by rw [s8]; exact hb.2)
    have HB8 := Lib.hid (l8 w.heap.size (by have := HZ7.out; omega) w HBW7.out)
    clear HSS HTT HG7 HE7 HS7 HBW7 HQ7 qlt hw8 b8 k8 l8 s8
    generalize w6.heap.size = gq at *
    have x0 := HG8.out.c0
    have x1 := HG8.out.c1
    have x2 := HG8.out.c2
    have x3 := HG8.out.c3
    have x4 := HG8.out.c4
    have x5 := HG8.out.c5
    have e0 : w8.cell? ⟨w.heap.size, 0, none⟩ = some (.int .i64 x.kind) := by rw [Lib.cell_of_heap HE8.out]; rfl
    have e1 : w8.cell? ⟨w.heap.size, 1, none⟩ = some (.int .i64 x.n) := by rw [Lib.cell_of_heap HE8.out]; rfl
    have e2 : w8.cell? ⟨w.heap.size, 2, none⟩ = some (.int .i64 x.v.k) := by rw [Lib.cell_of_heap HE8.out]; rfl
    have e3 : w8.cell? ⟨w.heap.size, 3, none⟩ = some (.int .i64 x.v.n) := by rw [Lib.cell_of_heap HE8.out]; rfl
    have e4 : w8.cell? ⟨w.heap.size, 4, none⟩ = some (.string x.v.s) := by rw [Lib.cell_of_heap HE8.out]; rfl
    have e5 : w8.cell? ⟨w.heap.size, 5, none⟩ = some (.slice A5 x.v.l.length c5) := by rw [Lib.cell_of_heap HE8.out]; rfl
    have hgz8 := HG8.out.lt
    have hez8 := (Array.getElem?_eq_some_iff.1 HE8.out).1
    go_wp2_with fail
    refine Calls.mono (refStepB_any FA PA s.fr.length fc s.pn.length pc k s (toEV x) A5 x.v.l.length c5 w8 HSs8.out HIN.out (by omega)) ?_
    rintro e w9 ⟨r', ts', FD, PD, TD, fe, pe, te, code', hsa', rfl, hS', hT', hb9⟩
    obtain ⟨rfl, rfl, rfl⟩ := HSA.out.uniq hsa'
    have HQ9 := Lib.hid (SB.to HQ8.out (hb9.block _ HQ8.out.lt))
    have HSr9 := Lib.hid ((HSr8.out.into hb9).more hb9.size)
    have HTr9 := Lib.hid ((HTr8.out.below hb9).more hb9.size)
    have HSd9 := Lib.hid (hS'.r fun b hb => hb.2)
    have HTd9 := Lib.hid (hT'.rd fun b hb => hb.2)
    have HB9 := Lib.hid (HB8.out.trans (hb9.mono HB8.out.size))
    clear hsa' hS' hT' hb9 x0 x1 x2 x3 x4 x5 e0 e1 e2 e3 e4 e5 hgz8 hez8 HQ8 HG8 HE8 HSs8 HSr8 HTr8 HB8
    go_upto_region 5 with (fail)
    have HA10 := Lib.hid (al (w := w9) (.cells #[.slice FD r.fr.length fe, .slice PD r.pn.length pe, .int .i64 (r.next : Int), .int .i64 (r.ser : Int), .int .i64 r.en, .int .i64 r.st] 56))
    have HD10 := Lib.hid (show SB (w9.alloc (.cells #[.slice FD r.fr.length fe, .slice PD r.pn.length pe, .int .i64 (r.next : Int), .int .i64 (r.ser : Int), .int .i64 r.en, .int .i64 r.st] 56)) w9.heap.size (.slice FD r.fr.length fe) (.slice PD r.pn.length pe) r from heap_alloc_new w9 _)
    have HQ10 := Lib.hid (SB.to HQ9.out (HA10.out.block _ HQ9.out.lt))
    have HSr10 := Lib.hid ((HSr9.out.into HA10.out).more HA10.out.size)
    have HTr10 := Lib.hid ((HTr9.out.below HA10.out).more HA10.out.size)
    have HSd10 := Lib.hid ((HSd9.out.into HA10.out).more HA10.out.size)
    have HTd10 := Lib.hid ((HTd9.out.below HA10.out).more HA10.out.size)
    have HB10 := Lib.hid (HB9.out.trans (HA10.out.mono HB9.out.size))
    clear HQ9 HSr9 HTr9 HSd9 HTd9 HB9 HA10
    generalize w9.alloc (.cells #[.slice FD r.fr.length fe, .slice PD r.pn.length pe, .int .i64 (r.next : Int), .int .i64 (r.ser : Int), .int .i64 r.en, .int .i64 r.st] 56) = w10 at *
    generalize w9.heap.size = gd at *
    have hcc : (code == code) = true := beq_self_eq_true _
    have HBD := Lib.hid (HSA.out.bounds HIN.out hk)
    have x0 := HQ10.out.c0
    have x1 := HQ10.out.c1
    have x2 := HQ10.out.c2
    have x3 := HQ10.out.c3
    have x4 := HQ10.out.c4
    have x5 := HQ10.out.c5
    have y0 := HD10.out.c0
    have y1 := HD10.out.c1
    have y2 := HD10.out.c2
    have y3 := HD10.out.c3
    have y4 := HD10.out.c4
    have y5 := HD10.out.c5
    have gaz := HQ10.out.lt
    have gbz := HD10.out.lt
    go_wp2_with fail
    refine Calls.mono (sameState_any FB PB FD PD r.fr.length fd r.pn.length pd r.fr.length fe r.pn.length pe r w10 HSr10.out HSd10.out HBD.out.1 HBD.out.2.1 HBD.out.2.2.1) ?_
    rintro e w11 ⟨rfl, hb11⟩
    have HT11 := Lib.hid ((HTr10.out.below hb11).more hb11.size)
    have HTB11 := Lib.hid ((HTd10.out.below hb11).more hb11.size)
    have HB11 := Lib.hid (HB10.out.trans (hb11.mono HB10.out.size))
    clear hb11 x0 x1 x2 x3 x4 x5 y0 y1 y2 y3 y4 y5 gaz gbz
    go_wp2_with fail
    refine Calls.mono (sameTl_any TB TD ts.length ts.length td te ts w11 HT11.out HTB11.out rfl rfl HBD.out.2.2.2) ?_
    rintro e w12 ⟨rfl, hb12⟩
    have HB12 := Lib.hid (HB11.out.trans (hb12.mono HB11.out.size))
    clear hb12
    go_wp2_with fail
    refine Calls.mono (panicsBegin_new w12) ?_
    rintro e w13 ⟨gg, rfl, _, _, hb13⟩
    have HB13 := Lib.hid (HB12.out.trans (hb13.mono HB12.out.size))
    clear hb13
    have hfl : ∀ w, (Instr.field 56 (.agg #[.slice (some ⟨gg, 0, none⟩) 1 1, .slice none 0 0, .int .i64 1, .int .i64 0, .int .i64 0, .int .i64 0]) 2).run Try.prog w = .ok (.int .i64 1) w := fun w => by kernel_rfl
    go_wp2_with fail
    go_ret
    exact ⟨rfl, HB13.out⟩
  · have HSA := Lib.hid hsa
    have HB57 := Lib.hid (HB6.out.trans (HB7.out.mono HB6.out.size))
    have HG7 := Lib.hid (SB.to HG5.out (HB57.out.block _ HG5.out.lt))
    have HE7 := Lib.hid ((HB57.out.block _ (Array.getElem?_eq_some_iff.1 HE5.out).1).trans HE5.out)
    have HS7 := Lib.hid (HS5.out.keep fun pa hp => HB57.out.cell hp.2)
    have HBW7 := Lib.hid (HB5.out.trans (HB57.out.mono HB5.out.size))
    have HZ7 := Lib.hid (show w5.heap.size ≤ w6.heap.size ∧ w6.heap.size ≤ w7.heap.size from ⟨HB6.out.size, HB7.out.size⟩)
    have hgl : G < w5.heap.size := hgz
    have hel : w.heap.size < w5.heap.size := hez
    clear hsa x0 x1 x2 x3 x4 x5 e0 e1 e2 e3 e4 e5 hn1 hn1' hn2 hn2'
    have hq56 : w5.heap.size < w6.heap.size := (Array.getElem?_eq_some_iff.1 HQ6.out).1
    clear q0 q1 q2 q3 q4 q5 qz0 qz1 qz2 qz3 qz4 qz5
    obtain ⟨w8, hw8, b8, k8, l8, s8⟩ := six_at (w := w7) (g := w5.heap.size) (.slice FB r.fr.length fd) (.slice PB r.pn.length pd) (.int .i64 (r.next : Int)) (.int .i64 (r.ser : Int)) (.int .i64 r.en) (.int .i64 r.st) HQ7.out
    rw [← hw8]
    have HQ8 := Lib.hid (show SB w8 w5.heap.size (.slice FB r.fr.length fd) (.slice PB r.pn.length pd) r from b8)
    have HG8 := Lib.hid (SB.to HG7.out (k8 G (by have := HZ7.out; omega)))
    have HE8 := Lib.hid ((k8 w.heap.size (by have := HZ7.out; omega)).trans HE7.out)
    have HSs8 := Lib.hid ((HS7.out.keep (w' := w8) fun pa hp => World.cell?_of_block (k8 pa.block (by have := hp.2; have := HZ7.out; omega))).r (B := w8.heap.size) fun b hb => by have := hb.2; have := HZ7.out; rw [s8]; omega)
    have HSr8 := Lib.hid ((HSS.out.keep (w' := w8) fun pa hp => World.cell?_of_block (k8 pa.block (by have h1 := hp.1; have := HZ7.out; (try simp at h1); omega))).r (B := w8.heap.size) fun b hb => by rw [s8]; exact hb.2)
    have HTr8 := Lib.hid ((HTT.out.keep (w' := w8) fun pa hp => World.cell?_of_block (k8 pa.block (by have h1 := hp.1; have := HZ7.out; (try simp at h1); omega))).rd (B := w8.heap.size) fun b hb => by rw [s8]; exact hb.2)
    have HB8 := Lib.hid (l8 w.heap.size (by have := HZ7.out; omega) w HBW7.out)
    clear HSS HTT HG7 HE7 HS7 HBW7 HQ7 qlt hw8 b8 k8 l8 s8
    generalize w5.heap.size = gq at *
    have x0 := HG8.out.c0
    have x1 := HG8.out.c1
    have x2 := HG8.out.c2
    have x3 := HG8.out.c3
    have x4 := HG8.out.c4
    have x5 := HG8.out.c5
    have e0 : w8.cell? ⟨w.heap.size, 0, none⟩ = some (.int .i64 x.kind) := by rw [Lib.cell_of_heap HE8.out]; rfl
    have e1 : w8.cell? ⟨w.heap.size, 1, none⟩ = some (.int .i64 x.n) := by rw [Lib.cell_of_heap HE8.out]; rfl
    have e2 : w8.cell? ⟨w.heap.size, 2, none⟩ = some (.int .i64 x.v.k) := by rw [Lib.cell_of_heap HE8.out]; rfl
    have e3 : w8.cell? ⟨w.heap.size, 3, none⟩ = some (.int .i64 x.v.n) := by rw [Lib.cell_of_heap HE8.out]; rfl
    have e4 : w8.cell? ⟨w.heap.size, 4, none⟩ = some (.string x.v.s) := by rw [Lib.cell_of_heap HE8.out]; rfl
    have e5 : w8.cell? ⟨w.heap.size, 5, none⟩ = some (.slice A5 x.v.l.length c5) := by rw [Lib.cell_of_heap HE8.out]; rfl
    have hgz8 := HG8.out.lt
    have hez8 := (Array.getElem?_eq_some_iff.1 HE8.out).1
    go_wp2_with fail
    refine Calls.mono (refStepB_any FA PA s.fr.length fc s.pn.length pc k s (toEV x) A5 x.v.l.length c5 w8 HSs8.out HIN.out (by omega)) ?_
    rintro e w9 ⟨r', ts', FD, PD, TD, fe, pe, te, code', hsa', rfl, hS', hT', hb9⟩
    obtain ⟨rfl, rfl, rfl⟩ := HSA.out.uniq hsa'
    have HQ9 := Lib.hid (SB.to HQ8.out (hb9.block _ HQ8.out.lt))
    have HSr9 := Lib.hid ((HSr8.out.into hb9).more hb9.size)
    have HTr9 := Lib.hid ((HTr8.out.below hb9).more hb9.size)
    have HSd9 := Lib.hid (hS'.r fun b hb => hb.2)
    have HTd9 := Lib.hid (hT'.rd fun b hb => hb.2)
    have HB9 := Lib.hid (HB8.out.trans (hb9.mono HB8.out.size))
    clear hsa' hS' hT' hb9 x0 x1 x2 x3 x4 x5 e0 e1 e2 e3 e4 e5 hgz8 hez8 HQ8 HG8 HE8 HSs8 HSr8 HTr8 HB8
    go_upto_region 5 with (fail)
    have HA10 := Lib.hid (al (w := w9) (.cells #[.slice FD r.fr.length fe, .slice PD r.pn.length pe, .int .i64 (r.next : Int), .int .i64 (r.ser : Int), .int .i64 r.en, .int .i64 r.st] 56))
    have HD10 := Lib.hid (show SB (w9.alloc (.cells #[.slice FD r.fr.length fe, .slice PD r.pn.length pe, .int .i64 (r.next : Int), .int .i64 (r.ser : Int), .int .i64 r.en, .int .i64 r.st] 56)) w9.heap.size (.slice FD r.fr.length fe) (.slice PD r.pn.length pe) r from heap_alloc_new w9 _)
    have HQ10 := Lib.hid (SB.to HQ9.out (HA10.out.block _ HQ9.out.lt))
    have HSr10 := Lib.hid ((HSr9.out.into HA10.out).more HA10.out.size)
    have HTr10 := Lib.hid ((HTr9.out.below HA10.out).more HA10.out.size)
    have HSd10 := Lib.hid ((HSd9.out.into HA10.out).more HA10.out.size)
    have HTd10 := Lib.hid ((HTd9.out.below HA10.out).more HA10.out.size)
    have HB10 := Lib.hid (HB9.out.trans (HA10.out.mono HB9.out.size))
    clear HQ9 HSr9 HTr9 HSd9 HTd9 HB9 HA10
    generalize w9.alloc (.cells #[.slice FD r.fr.length fe, .slice PD r.pn.length pe, .int .i64 (r.next : Int), .int .i64 (r.ser : Int), .int .i64 r.en, .int .i64 r.st] 56) = w10 at *
    generalize w9.heap.size = gd at *
    have hcc : (code == code) = true := beq_self_eq_true _
    have HBD := Lib.hid (HSA.out.bounds HIN.out hk)
    have x0 := HQ10.out.c0
    have x1 := HQ10.out.c1
    have x2 := HQ10.out.c2
    have x3 := HQ10.out.c3
    have x4 := HQ10.out.c4
    have x5 := HQ10.out.c5
    have y0 := HD10.out.c0
    have y1 := HD10.out.c1
    have y2 := HD10.out.c2
    have y3 := HD10.out.c3
    have y4 := HD10.out.c4
    have y5 := HD10.out.c5
    have gaz := HQ10.out.lt
    have gbz := HD10.out.lt
    go_wp2_with fail
    refine Calls.mono (sameState_any FB PB FD PD r.fr.length fd r.pn.length pd r.fr.length fe r.pn.length pe r w10 HSr10.out HSd10.out HBD.out.1 HBD.out.2.1 HBD.out.2.2.1) ?_
    rintro e w11 ⟨rfl, hb11⟩
    have HT11 := Lib.hid ((HTr10.out.below hb11).more hb11.size)
    have HTB11 := Lib.hid ((HTd10.out.below hb11).more hb11.size)
    have HB11 := Lib.hid (HB10.out.trans (hb11.mono HB10.out.size))
    clear hb11 x0 x1 x2 x3 x4 x5 y0 y1 y2 y3 y4 y5 gaz gbz
    go_wp2_with fail
    refine Calls.mono (sameTl_any TB TD ts.length ts.length td te ts w11 HT11.out HTB11.out rfl rfl HBD.out.2.2.2) ?_
    rintro e w12 ⟨rfl, hb12⟩
    have HB12 := Lib.hid (HB11.out.trans (hb12.mono HB11.out.size))
    clear hb12
    go_wp2_with fail
    refine Calls.mono (panicsBegin_new w12) ?_
    rintro e w13 ⟨gg, rfl, _, _, hb13⟩
    have HB13 := Lib.hid (HB12.out.trans (hb13.mono HB12.out.size))
    clear hb13
    have hfl : ∀ w, (Instr.field 56 (.agg #[.slice (some ⟨gg, 0, none⟩) 1 1, .slice none 0 0, .int .i64 1, .int .i64 0, .int .i64 0, .int .i64 0]) 2).run Try.prog w = .ok (.int .i64 1) w := fun w => by kernel_rfl
    go_wp2_with fail
    go_ret
    exact ⟨rfl, HB13.out⟩
end Go.Proofs.Ytapofohbngkekaa
