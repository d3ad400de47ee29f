/- The law PanicsPlays: events copied, played both ways, compared. Conditions: what comes in reads as events. -/
import Derived.Test.YtapofohbngkekaaPoO
import Derived.Test.YtapofohbngkekaaOpValue
set_option maxRecDepth 100000
namespace Go.Proofs.Ytapofohbngkekaa
open Go.ChangeShapes Go.WideShapes Go.ChangeAt Go.RowKit
def eeC (x : EE) (d : Value) : List Value := [.int .i64 x.kind, .int .i64 x.n, .int .i64 x.v.k, .int .i64 x.v.n, .string x.v.s, d]
def eeL (l : List EE) (ds : List Value) : List Value := (List.zipWith eeC l ds).flatten
theorem eeL_snoc {l : List EE} {ds : List Value} (h : ds.length = l.length) (f : EE) (d : Value) : eeL (l ++ [f]) (ds ++ [d]) = eeL l ds ++ eeC f d := by
  unfold eeL
  rw [List.zipWith_append h.symm]
  simp
theorem eeL_get {l : List EE} {ds : List Value} {i j : Nat} {f : EE} {d : Value} (h : l[i]? = some f) (hd : ds[i]? = some d) (hj : j < 6) : (eeL l ds)[i * 6 + j]? = (eeC f d)[j]? := by
  unfold eeL
  rw [flat_at (fun c hc => by obtain ⟨q, hq, rfl⟩ := List.mem_iff_getElem.1 hc; simp [eeC]) i j hj, List.getElem?_zipWith, h, hd]
  rfl
theorem evs_own {w : World} {base n c : Nat} {A : Option Addr} {l : List EE} {ds : List Value} (h : w.ownsRow base 51 6 (.slice A n c) n (eeL l ds)) (hn : n = l.length) (hd : ds.length = l.length) (hds : ∀ d ∈ ds, ∃ A n c, d = .slice A n c) : EvsR w w.heap.size A (l.map toEV) := by
  subst hn
  intro i v hv
  rw [List.getElem?_map] at hv
  cases hx : l[i]? with
  | none => rw [hx] at hv; cases hv
  | some x =>
    rw [hx] at hv
    injection hv with hv
    subst hv
    have hi := (List.getElem?_eq_some_iff.1 hx).1
    obtain ⟨d, hdd⟩ : ∃ d, ds[i]? = some d := ⟨_, List.getElem?_eq_getElem (by rw [hd]; exact hi)⟩
    obtain ⟨Ai, ni, ci, rfl⟩ := hds d (List.mem_of_getElem? hdd)
    obtain ⟨b, off, rfl, hb, hc⟩ := (Rd.of_own h).2 (by omega)
    have hcell : ∀ j u, j < 6 → (eeC x (.slice Ai ni ci))[j]? = some u → w.cell? ⟨b, off + (i * 6 + j), none⟩ = some u := fun j u hj hu => hc _ u (by rw [eeL_get hx hdd hj]; exact hu)
    exact ⟨b, off, Ai, ni, ci, rfl, hb, hcell 0 _ (by omega) rfl, hcell 1 _ (by omega) rfl, hcell 2 _ (by omega) rfl, hcell 3 _ (by omega) rfl, hcell 4 _ (by omega) rfl, hcell 5 _ (by omega) rfl⟩
theorem evs_into {w w' : World} {B B' : Nat} {A : Option Addr} {l : List EV} (h : EvsR w B A l) (hb : Below B w w') (hB : B ≤ B') : EvsR w' B' A l := fun i v hv => by
  obtain ⟨b, off, Ai, ni, ci, e, hlt, c0, c1, c2, c3, c4, c5⟩ := h i v hv
  exact ⟨b, off, Ai, ni, ci, e, Nat.lt_of_lt_of_le hlt hB, (hb.cell (p := ⟨b, _, none⟩) hlt).trans c0, (hb.cell (p := ⟨b, _, none⟩) hlt).trans c1, (hb.cell (p := ⟨b, _, none⟩) hlt).trans c2, (hb.cell (p := ⟨b, _, none⟩) hlt).trans c3, (hb.cell (p := ⟨b, _, none⟩) hlt).trans c4, (hb.cell (p := ⟨b, _, none⟩) hlt).trans c5⟩
theorem info_event : (Try.prog.info? 51).map (fun i => (i.zero, i.size, i.bytes)) = some (some (.agg #[.int .i64 0, .int .i64 0, .int .i64 0, .int .i64 0, .string ByteArray.empty, .slice none 0 0]), 6, 72) := by kernel_rfl
set_option maxHeartbeats 8000000 in
theorem walkPanicsPlays (v0 : Value) (w : World) (w0 : IsEvts w v0) : Calls Try.prog 4 #[v0] w fun e w' => e = .returned (.bool true) ∧ Below w.heap.size w w' := by
  obtain ⟨l, hrd, hsz, hft⟩ := w0
  obtain ⟨A, c, ess, e, h9⟩ := id hrd
  simp only [List.cons.injEq, and_true] at e
  subst e
  obtain ⟨n, hn⟩ : ∃ n, l.length = n := ⟨_, rfl⟩
  have HRD := Lib.hid hrd
  have HAT := Lib.hid (evs_at hrd).2.2
  have HFT := Lib.hid hft
  have HN := Lib.hid hn
  rw [hn] at hsz ⊢
  clear hrd h9 hft hn
  obtain ⟨j0, hj, jz0, jz1, jz2⟩ := info_parts info_event
  have HJ := Lib.hid (And.intro hj (And.intro jz0 (And.intro jz1 jz2)))
  clear hj jz0 jz1 jz2
  go_enter Try.func4, Try.ntmps4
  go_wp2_with fail
  go_loopw [3, 4] (fun v3 i wr => ∃ (k : Nat) (MA : Option Addr) (mc : Nat) (ds : List Value), k ≤ n ∧ v3 = .slice MA k mc ∧ i = .int .i64 (k : Int) ∧ Hid (wr.ownsRow w.heap.size 51 6 (.slice MA k mc) k (eeL (l.take k) ds)) ∧ Hid (ds.length = k) ∧ Hid (∀ d ∈ ds, ∃ A n c, d = .slice A n c) ∧ Hid (Below w.heap.size w wr)) (fun _ i _ => n - (intOf i).toNat)
  case atStart => exact ⟨0, none, 0, [], Nat.zero_le _, rfl, rfl, Lib.hid (World.ownsRow_nil _ _ _ _), Lib.hid rfl, Lib.hid (by simp), Lib.hid (Below.refl _ _)⟩
  case round =>
    obtain ⟨k, MA, mc, ds, hk, rfl, rfl, HO, HD, HDS, HB⟩ := hrel
    by_cases hlt : k < n
    · obtain ⟨x, hx⟩ : ∃ x, l[k]? = some x := ⟨_, List.getElem?_eq_getElem (by rw [HN.out]; exact hlt)⟩
      obtain ⟨b, off, Ai, ci, rfl, hbz, c0, c1, c2, c3, c4, c5, hri⟩ := HAT.out k x hx
      have HXX := Lib.hid hx
      have hb5 := HB.out
      rw [← hb5.cell (p := ⟨b, off + k * 6, none⟩) hbz] at c0
      rw [← hb5.cell (p := ⟨b, off + k * 6 + 1, none⟩) hbz] at c1
      rw [← hb5.cell (p := ⟨b, off + k * 6 + 2, none⟩) hbz] at c2
      rw [← hb5.cell (p := ⟨b, off + k * 6 + 3, none⟩) hbz] at c3
      rw [← hb5.cell (p := ⟨b, off + k * 6 + 4, none⟩) hbz] at c4
      rw [← hb5.cell (p := ⟨b, off + k * 6 + 5, none⟩) hbz] at c5
      have HRI := Lib.hid (show Rd wr wr.heap.size 1 Ai x.v.l.length (x.v.l.map (Value.int .i64)) from (hri.keep fun p hp => hb5.cell hp).rd fun b hb => Nat.lt_of_lt_of_le hb hb5.size)
      have hxl : x.v.l.length * 8 ≤ 140737488351232 := (HFT.out x (List.mem_of_getElem? hx)).2
      have hlti : (k : Int) < (n : Int) := by omega
      have hki : ¬ (k : Int) < 0 := by omega
      clear hx hb5 hri
      go_upto_region 6 with (fail)
      have HG4 := Lib.hid (show (wr.alloc (.cells (eeC x (.slice Ai x.v.l.length ci)).toArray 51)).heap[wr.heap.size]? = some (.cells (eeC x (.slice Ai x.v.l.length ci)).toArray 51 (0, 0)) from heap_alloc_new wr _)
      have HA4 := Lib.hid (al (w := wr) (.cells (eeC x (.slice Ai x.v.l.length ci)).toArray 51))
      simp only [eeC] at HG4 HA4
      clear c0 c1 c2 c3 c4 c5
      generalize wr.alloc (.cells [.int .i64 x.kind, .int .i64 x.n, .int .i64 x.v.k, .int .i64 x.v.n, .string x.v.s, .slice Ai x.v.l.length ci].toArray 51) = w4 at *
      have HEL := Lib.hid (show w4.heap[wr.heap.size]? = _ from HG4.out)
      have e2 : w4.cell? ⟨wr.heap.size, 2, none⟩ = some (.int .i64 x.v.k) := by rw [Lib.cell_of_heap HG4.out]; rfl
      have e3 : w4.cell? ⟨wr.heap.size, 3, none⟩ = some (.int .i64 x.v.n) := by rw [Lib.cell_of_heap HG4.out]; rfl
      have e4 : w4.cell? ⟨wr.heap.size, 4, none⟩ = some (.string x.v.s) := by rw [Lib.cell_of_heap HG4.out]; rfl
      have e5 : w4.cell? ⟨wr.heap.size, 5, none⟩ = some (.slice Ai x.v.l.length ci) := by rw [Lib.cell_of_heap HG4.out]; rfl
      have gz := (Array.getElem?_eq_some_iff.1 HG4.out).1
      go_wp2_with fail
      refine (own_any x.v.k x.v.n x.v.s Ai x.v.l.length ci x.v.l w4 ((HRI.out.below HA4.out).more HA4.out.size) (by omega)).mono ?_
      rintro e w5 ⟨A5, c5, rfl, hown5, hb5⟩
      have HX5 := Lib.hid ((hb5.block _ gz).trans HG4.out)
      have HA5 := Lib.hid (HA4.out.trans (hb5.mono HA4.out.size))
      clear hown5 hb5 e2 e3 e4 e5 gz
      have e0 : w5.cell? ⟨wr.heap.size, 0, none⟩ = some (.int .i64 x.kind) := by rw [Lib.cell_of_heap HX5.out]; rfl
      have e1 : w5.cell? ⟨wr.heap.size, 1, none⟩ = some (.int .i64 x.n) := by rw [Lib.cell_of_heap HX5.out]; rfl
      have e2 : w5.cell? ⟨wr.heap.size, 2, none⟩ = some (.int .i64 x.v.k) := by rw [Lib.cell_of_heap HX5.out]; rfl
      have e3 : w5.cell? ⟨wr.heap.size, 3, none⟩ = some (.int .i64 x.v.n) := by rw [Lib.cell_of_heap HX5.out]; rfl
      have e4 : w5.cell? ⟨wr.heap.size, 4, none⟩ = some (.string x.v.s) := by rw [Lib.cell_of_heap HX5.out]; rfl
      have e5 : w5.cell? ⟨wr.heap.size, 5, none⟩ = some (.slice Ai x.v.l.length ci) := by rw [Lib.cell_of_heap HX5.out]; rfl
      have z2 := Lib.frozen_of_heap HX5.out 2
      have z3 := Lib.frozen_of_heap HX5.out 3
      have z4 := Lib.frozen_of_heap HX5.out 4
      have z5 := Lib.frozen_of_heap HX5.out 5
      have gz := (Array.getElem?_eq_some_iff.1 HX5.out).1
      go_upto_region 7 with (fail)
      have HX6 := Lib.hid (show ((((w5.setCell ⟨wr.heap.size, 2, none⟩ (.int .i64 x.v.k)).setCell ⟨wr.heap.size, 3, none⟩ (.int .i64 x.v.n)).setCell ⟨wr.heap.size, 4, none⟩ (.string x.v.s)).setCell ⟨wr.heap.size, 5, none⟩ (.slice A5 x.v.l.length c5)).heap[wr.heap.size]? = some (.cells #[.int .i64 x.kind, .int .i64 x.n, .int .i64 x.v.k, .int .i64 x.v.n, .string x.v.s, .slice A5 x.v.l.length c5] 51 (0, 0)) from heap_setN (heap_setN (heap_setN (heap_setN HX5.out _) _) _) _)
      have HA6 := Lib.hid ((((HA5.out.setCell (p := ⟨wr.heap.size, 2, none⟩) (Nat.le_refl _) (.int .i64 x.v.k)).setCell (p := ⟨wr.heap.size, 3, none⟩) (Nat.le_refl _) (.int .i64 x.v.n)).setCell (p := ⟨wr.heap.size, 4, none⟩) (Nat.le_refl _) (.string x.v.s)).setCell (p := ⟨wr.heap.size, 5, none⟩) (Nat.le_refl _) (.slice A5 x.v.l.length c5))
      clear e0 e1 e2 e3 e4 e5 z2 z3 z4 z5 gz HX5 HA5 HG4 HEL HA4
      generalize (((w5.setCell ⟨wr.heap.size, 2, none⟩ (.int .i64 x.v.k)).setCell ⟨wr.heap.size, 3, none⟩ (.int .i64 x.v.n)).setCell ⟨wr.heap.size, 4, none⟩ (.string x.v.s)).setCell ⟨wr.heap.size, 5, none⟩ (.slice A5 x.v.l.length c5) = w6 at *
      have HO6 := Lib.hid (own_below HO.out HA6.out)
      have HBZ := Lib.hid (Nat.le_trans HB.out.size HA6.out.size)
      have e0 : w6.cell? ⟨wr.heap.size, 0, none⟩ = some (.int .i64 x.kind) := by rw [Lib.cell_of_heap HX6.out]; rfl
      have e1 : w6.cell? ⟨wr.heap.size, 1, none⟩ = some (.int .i64 x.n) := by rw [Lib.cell_of_heap HX6.out]; rfl
      have e2 : w6.cell? ⟨wr.heap.size, 2, none⟩ = some (.int .i64 x.v.k) := by rw [Lib.cell_of_heap HX6.out]; rfl
      have e3 : w6.cell? ⟨wr.heap.size, 3, none⟩ = some (.int .i64 x.v.n) := by rw [Lib.cell_of_heap HX6.out]; rfl
      have e4 : w6.cell? ⟨wr.heap.size, 4, none⟩ = some (.string x.v.s) := by rw [Lib.cell_of_heap HX6.out]; rfl
      have e5 : w6.cell? ⟨wr.heap.size, 5, none⟩ = some (.slice A5 x.v.l.length c5) := by rw [Lib.cell_of_heap HX6.out]; rfl
      go_wp2_with (at_builtin; refine wpList_append_rd _ rfl _ _ 47 rfl w.heap.size 51 j0 _ 6 72 Try.underlying47 HJ.out.1 HJ.out.2.1 HJ.out.2.2.1 HJ.out.2.2.2 rfl (by omega) (.slice MA k mc) k (eeL (l.take k) ds) rfl (own_below HO6.out (al _)) _ _ 1 1 (eeC x (.slice A5 x.v.l.length c5)) rfl (Rd.one _ _ _ 6 rfl _ (by simp)) (by intro u hu; simp [eeC] at hu; rcases hu with rfl | rfl | rfl | rfl | rfl | rfl <;> rfl) (by unfold maxLen; omega) (by omega) (by have := HBZ.out; simp; omega) ?_; intro A8 c8 w8 hown8 hgrow8 hob8)
      have HO8 := Lib.hid hown8
      have HB8 := Lib.hid (((HB.out.trans (HA6.out.mono HB.out.size)).alloc HBZ.out (.cells #[.int .i64 x.kind, .int .i64 x.n, .int .i64 x.v.k, .int .i64 x.v.n, .string x.v.s, .slice A5 x.v.l.length c5] 51)).grown hgrow8 (by have := HBZ.out; simp; omega) (fun q hq => (HO.out.lt q hq).1))
      have htk : l.take (k + 1) = l.take k ++ [x] := by rw [List.take_add_one, HXX.out]; rfl
      have hlk : (l.take k).length = k := by rw [List.length_take, HN.out]; omega
      refine ⟨⟨k + 1, A8, c8, ds ++ [.slice A5 x.v.l.length c5], by omega, rfl, by go_num, Lib.hid ?_, Lib.hid (by simp [HD.out]), Lib.hid (fun d hd => ?_), HB8⟩, by simp [intOf]; omega⟩
      · rw [htk, eeL_snoc (by rw [HD.out, hlk])]
        exact HO8.out
      · rcases List.mem_append.1 hd with hd | hd
        · exact HDS.out d hd
        · simp at hd
          exact ⟨_, _, _, hd⟩
    · obtain rfl : k = n := by omega
      have HTK := Lib.hid (show l.take k = l from List.take_of_length_le (by rw [HN.out]; exact Nat.le_refl _))
      rw [HTK.out] at HO
      have HEO := Lib.hid (evs_own HO.out HN.out.symm (by rw [HD.out, HN.out]) HDS.out)
      go_wp2_with fail
      refine Calls.mono (playQ_any MA k mc (l.map toEV) wr HEO.out (by rw [List.length_map, HN.out])) ?_
      rintro e w1 ⟨r, ts, FA, PA, TA, fc, pc, tc, code, hpl, rfl, hst, htl, hb1⟩
      have HPL := Lib.hid hpl
      have HST := Lib.hid hst
      have HTL := Lib.hid htl
      have HB1 := Lib.hid (HB.out.trans (hb1.mono HB.out.size))
      clear hpl hst htl hb1
      go_upto_region 9 with (fail)
      have HGA := Lib.hid (show SB (w1.alloc (.cells #[.slice FA r.fr.length fc, .slice PA r.pn.length pc, .int .i64 (r.next : Int), .int .i64 (r.ser : Int), .int .i64 r.en, .int .i64 r.st] 56)) w1.heap.size (.slice FA r.fr.length fc) (.slice PA r.pn.length pc) r from heap_alloc_new w1 _)
      have HST2 := Lib.hid ((HST.out.into (al (w := w1) (.cells #[.slice FA r.fr.length fc, .slice PA r.pn.length pc, .int .i64 (r.next : Int), .int .i64 (r.ser : Int), .int .i64 r.en, .int .i64 r.st] 56))).more (al (w := w1) (.cells #[.slice FA r.fr.length fc, .slice PA r.pn.length pc, .int .i64 (r.next : Int), .int .i64 (r.ser : Int), .int .i64 r.en, .int .i64 r.st] 56)).size)
      have HTL2 := Lib.hid ((HTL.out.below (al (w := w1) (.cells #[.slice FA r.fr.length fc, .slice PA r.pn.length pc, .int .i64 (r.next : Int), .int .i64 (r.ser : Int), .int .i64 r.en, .int .i64 r.st] 56))).more (al (w := w1) (.cells #[.slice FA r.fr.length fc, .slice PA r.pn.length pc, .int .i64 (r.next : Int), .int .i64 (r.ser : Int), .int .i64 r.en, .int .i64 r.st] 56)).size)
      have HB2 := Lib.hid (HB1.out.alloc HB1.out.size (.cells #[.slice FA r.fr.length fc, .slice PA r.pn.length pc, .int .i64 (r.next : Int), .int .i64 (r.ser : Int), .int .i64 r.en, .int .i64 r.st] 56))
      clear HST HTL HB1
      generalize w1.alloc (.cells #[.slice FA r.fr.length fc, .slice PA r.pn.length pc, .int .i64 (r.next : Int), .int .i64 (r.ser : Int), .int .i64 r.en, .int .i64 r.st] 56) = w2 at *
      generalize w1.heap.size = ga at *
      go_wp2_with fail
      refine Calls.mono (refPlayQ_any A k c (l.map toEV) w2 (evs_into (evs_of (by have := HRD.out; rw [HN.out] at this; exact this)) HB2.out HB2.out.size) (by rw [List.length_map, HN.out])) ?_
      rintro e w3 ⟨r', ts', FB, PB, TB, fd, pd, td, code', hpl', rfl, hst', htl', hb3⟩
      obtain ⟨rfl, rfl, rfl⟩ := HPL.out.uniq hpl'
      have HSB := Lib.hid hst'
      have HTB := Lib.hid htl'
      have HGA3 := Lib.hid (SB.to HGA.out (hb3.block _ HGA.out.lt))
      have HST3 := Lib.hid ((HST2.out.into hb3).more hb3.size)
      have HTL3 := Lib.hid ((HTL2.out.below hb3).more hb3.size)
      have HB3 := Lib.hid (HB2.out.trans (hb3.mono HB2.out.size))
      clear hpl' hst' htl' hb3 HGA HST2 HTL2 HB2
      go_upto_region 10 with (fail)
      have HGB4 := Lib.hid (show SB (w3.alloc (.cells #[.slice FB r.fr.length fd, .slice PB r.pn.length pd, .int .i64 (r.next : Int), .int .i64 (r.ser : Int), .int .i64 r.en, .int .i64 r.st] 56)) w3.heap.size (.slice FB r.fr.length fd) (.slice PB r.pn.length pd) r from heap_alloc_new w3 _)
      have HGA4 := Lib.hid (SB.to HGA3.out (Lib.alloc_old w3 (.cells #[.slice FB r.fr.length fd, .slice PB r.pn.length pd, .int .i64 (r.next : Int), .int .i64 (r.ser : Int), .int .i64 r.en, .int .i64 r.st] 56) _ HGA3.out.lt))
      have HS4 := Lib.hid ((HST3.out.into (al (w := w3) (.cells #[.slice FB r.fr.length fd, .slice PB r.pn.length pd, .int .i64 (r.next : Int), .int .i64 (r.ser : Int), .int .i64 r.en, .int .i64 r.st] 56))).more (al (w := w3) (.cells #[.slice FB r.fr.length fd, .slice PB r.pn.length pd, .int .i64 (r.next : Int), .int .i64 (r.ser : Int), .int .i64 r.en, .int .i64 r.st] 56)).size)
      have HT4 := Lib.hid ((HTL3.out.below (al (w := w3) (.cells #[.slice FB r.fr.length fd, .slice PB r.pn.length pd, .int .i64 (r.next : Int), .int .i64 (r.ser : Int), .int .i64 r.en, .int .i64 r.st] 56))).more (al (w := w3) (.cells #[.slice FB r.fr.length fd, .slice PB r.pn.length pd, .int .i64 (r.next : Int), .int .i64 (r.ser : Int), .int .i64 r.en, .int .i64 r.st] 56)).size)
      have HSB4 := Lib.hid ((HSB.out.into (al (w := w3) (.cells #[.slice FB r.fr.length fd, .slice PB r.pn.length pd, .int .i64 (r.next : Int), .int .i64 (r.ser : Int), .int .i64 r.en, .int .i64 r.st] 56))).more (al (w := w3) (.cells #[.slice FB r.fr.length fd, .slice PB r.pn.length pd, .int .i64 (r.next : Int), .int .i64 (r.ser : Int), .int .i64 r.en, .int .i64 r.st] 56)).size)
      have HTB4 := Lib.hid ((HTB.out.below (al (w := w3) (.cells #[.slice FB r.fr.length fd, .slice PB r.pn.length pd, .int .i64 (r.next : Int), .int .i64 (r.ser : Int), .int .i64 r.en, .int .i64 r.st] 56))).more (al (w := w3) (.cells #[.slice FB r.fr.length fd, .slice PB r.pn.length pd, .int .i64 (r.next : Int), .int .i64 (r.ser : Int), .int .i64 r.en, .int .i64 r.st] 56)).size)
      have HB4 := Lib.hid (HB3.out.alloc HB3.out.size (.cells #[.slice FB r.fr.length fd, .slice PB r.pn.length pd, .int .i64 (r.next : Int), .int .i64 (r.ser : Int), .int .i64 r.en, .int .i64 r.st] 56))
      clear HGA3 HST3 HTL3 HSB HTB HB3
      generalize w3.alloc (.cells #[.slice FB r.fr.length fd, .slice PB r.pn.length pd, .int .i64 (r.next : Int), .int .i64 (r.ser : Int), .int .i64 r.en, .int .i64 r.st] 56) = w4 at *
      generalize w3.heap.size = gb at *
      have hcc : (code == code) = true := beq_self_eq_true _
      have x0 := HGA4.out.c0
      have x1 := HGA4.out.c1
      have x2 := HGA4.out.c2
      have x3 := HGA4.out.c3
      have x4 := HGA4.out.c4
      have x5 := HGA4.out.c5
      have y0 := HGB4.out.c0
      have y1 := HGB4.out.c1
      have y2 := HGB4.out.c2
      have y3 := HGB4.out.c3
      have y4 := HGB4.out.c4
      have y5 := HGB4.out.c5
      have gaz := HGA4.out.lt
      have gbz := HGB4.out.lt
      have HBD := Lib.hid HPL.out.bounds
      go_wp2_with fail
      refine Calls.mono (sameState_any FA PA FB PB r.fr.length fc r.pn.length pc r.fr.length fd r.pn.length pd r w4 HS4.out HSB4.out HBD.out.1 HBD.out.2.1 HBD.out.2.2.1) ?_
      rintro e w5 ⟨rfl, hb5⟩
      have HT5 := Lib.hid ((HT4.out.below hb5).more hb5.size)
      have HTB5 := Lib.hid ((HTB4.out.below hb5).more hb5.size)
      have HB5 := Lib.hid (HB4.out.trans (hb5.mono HB4.out.size))
      clear hb5 x0 x1 x2 x3 x4 x5 y0 y1 y2 y3 y4 y5 gaz gbz
      go_wp2_with fail
      refine Calls.mono (sameTl_any TA TB ts.length ts.length tc td ts w5 HT5.out HTB5.out rfl rfl HBD.out.2.2.2) ?_
      rintro e w6 ⟨rfl, hb6⟩
      have HB6 := Lib.hid (HB5.out.trans (hb6.mono HB5.out.size))
      clear hb6
      go_wp2_with fail
      go_ret
      exact ⟨rfl, HB6.out⟩
end Go.Proofs.Ytapofohbngkekaa
