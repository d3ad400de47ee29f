/- The document's PlayEvents. Conditions: what comes in reads as events. -/
import Derived.Test.YtapofohbngkekaaPoL
set_option maxRecDepth 100000
namespace Go.Proofs.Ytapofohbngkekaa
open Go.ChangeShapes Go.WideShapes Go.ChangeAt Go.RowKit
theorem tlL_one {l : List TL} : ∀ u ∈ tlL l, u.oneCell' = true := fun u hu => by
  obtain ⟨c, hc, hu⟩ := List.mem_flatten.1 hu
  obtain ⟨q, _, rfl⟩ := List.mem_map.1 hc
  simp [tlC] at hu
  rcases hu with rfl | rfl | rfl | rfl | rfl | rfl | rfl <;> rfl
/-- What a play answers. -/
def PlP (l : List EV) (w : World) (e : Ending) (w' : World) : Prop :=
  ((PlayR beginS [] l none ∧ e = .returned (.tuple #[stV (.slice none 0 0) (.slice none 0 0) ⟨[], [], 0, 0, 0, 0⟩, .slice none 0 0, .int .i64 13])) ∨ ∃ r ts fv pv tv, PlayR beginS [] l (some (r, ts)) ∧ e = .returned (.tuple #[stV fv pv r, tv, .int .i64 0]) ∧ STr w' w'.heap.size fv pv r ∧ TLr w' w'.heap.size tv ts) ∧ Below w.heap.size w w'
set_option maxHeartbeats 16000000 in
theorem refPlay_any (A : Option Addr) (n c : Nat) (l : List EV) (w : World) (h : EvsR w w.heap.size A l) (hn : n = l.length) (hn2 : n ≤ 2000) :
    Calls Try.prog 16 #[.slice A n c] w (PlP l w) := by
  have HE := Lib.hid h
  have HN := Lib.hid hn
  have h1 : ¬ (2000 : Int) < (n : Int) := by omega
  clear h hn
  go_enter Try.func16, Try.ntmps16
  go_wp2_with fail
  refine Calls.mono (refBegin_new _) ?_
  rintro e w2 ⟨g, rfl, hg, hgz, hb2⟩
  have hR2 : SB w2 w.heap.size (.slice none 0 0) (.slice none 0 0) zeroST := (hb2.block _ (by simp)).trans (heap_atN _ rfl)
  have hb2' := hb2.size
  have HB2 := Lib.hid (show Below w.heap.size w w2 from (Below.refl w.heap.size w).alloc (Nat.le_refl _) _ |>.trans (hb2.mono (by simp)))
  have HZ2 := Lib.hid (show w.heap.size < w2.heap.size ∧ w.heap.size + 1 ≤ g ∧ g < w2.heap.size from ⟨by simp at hb2'; omega, by simpa using hgz, (Array.getElem?_eq_some_iff.1 hg).1⟩)
  have HR3 := Lib.hid (show SB (w2.alloc (.cells #[.slice (some ⟨g, 0, none⟩) 1 1, .slice none 0 0, .int .i64 1, .int .i64 0, .int .i64 0, .int .i64 0] 56)) w.heap.size (.slice none 0 0) (.slice none 0 0) zeroST from (Lib.alloc_old _ _ _ HZ2.out.1).trans hR2)
  have HG3 := Lib.hid (show SB (w2.alloc (.cells #[.slice (some ⟨g, 0, none⟩) 1 1, .slice none 0 0, .int .i64 1, .int .i64 0, .int .i64 0, .int .i64 0] 56)) w2.heap.size (.slice (some ⟨g, 0, none⟩) 1 1) (.slice none 0 0) beginS from heap_alloc_new w2 _)
  have HS3 := Lib.hid (show STm (w2.alloc (.cells #[.slice (some ⟨g, 0, none⟩) 1 1, .slice none 0 0, .int .i64 1, .int .i64 0, .int .i64 0, .int .i64 0] 56)) (fun b => w.heap.size + 1 ≤ b ∧ b < w2.heap.size) (.slice (some ⟨g, 0, none⟩) 1 1) (.slice none 0 0) beginS from STm.begin ((Lib.alloc_old _ _ _ HZ2.out.2.2).trans hg) HZ2.out.2)
  have HB3 := Lib.hid (HB2.out.alloc (Nat.le_of_lt HZ2.out.1) (.cells #[.slice (some ⟨g, 0, none⟩) 1 1, .slice none 0 0, .int .i64 1, .int .i64 0, .int .i64 0, .int .i64 0] 56))
  have HZ3 := Lib.hid (show w2.heap.size < (w2.alloc (.cells #[.slice (some ⟨g, 0, none⟩) 1 1, .slice none 0 0, .int .i64 1, .int .i64 0, .int .i64 0, .int .i64 0] 56)).heap.size by simp)
  clear hR2 hb2 hb2' hg hgz HB2
  go_wp2_with fail
  generalize w2.alloc (.cells #[.slice (some ⟨g, 0, none⟩) 1 1, .slice none 0 0, .int .i64 1, .int .i64 0, .int .i64 0, .int .i64 0] 56) = w3 at *
  obtain ⟨G, hG⟩ : ∃ G, w2.heap.size = G := ⟨_, rfl⟩
  rw [hG] at HZ2 HG3 HS3 HZ3 ⊢
  clear hG
  go_loopw [6, 19] (fun v6 i wr => ∃ (k : Nat) (s : ST) (t : List TL) (FA PA TA : Option Addr) (fc pc tc : Nat), k ≤ n ∧ v6 = .slice TA t.length tc ∧ i = .int .i64 (k : Int) ∧ Hid (∀ o, PlayR s t (l.drop k) o → PlayR beginS [] l o) ∧ Hid (Inv k s) ∧ Hid (t.length ≤ 40 * k) ∧ Hid (wr.ownsRow (w.heap.size + 1) 96 7 (.slice TA t.length tc) t.length (tlL t)) ∧ Hid (SB wr G (.slice FA s.fr.length fc) (.slice PA s.pn.length pc) s) ∧ Hid (STm wr (fun b => ((w.heap.size + 1 ≤ b ∧ b < wr.heap.size) ∧ b ≠ G) ∧ (Value.slice TA t.length tc).ownBlock ≠ some b) (.slice FA s.fr.length fc) (.slice PA s.pn.length pc) s) ∧ Hid (Below w.heap.size w wr) ∧ Hid (SB wr w.heap.size (.slice none 0 0) (.slice none 0 0) zeroST) ∧ Hid ((Value.slice TA t.length tc).ownBlock ≠ some G)) (fun _ i _ => n - (intOf i).toNat)
  case atStart =>
    refine ⟨0, beginS, [], some ⟨g, 0, none⟩, none, none, 1, 0, 0, Nat.zero_le _, rfl, rfl, Lib.hid (fun o h => h), Lib.hid begin_inv, Lib.hid (by simp), Lib.hid (World.ownsRow_nil _ _ _ _), HG3, Lib.hid (HS3.out.more fun b hb => ?_), HB3, HR3, Lib.hid (by intro h; cases h)⟩
    exact ⟨⟨⟨hb.1, by have := HZ3.out; omega⟩, by omega⟩, by intro h; cases h⟩
  case round =>
    obtain ⟨k, s, t, FA, PA, TA, fc, pc, tc, hk, rfl, rfl, HPR, HIN, HTL, HOW, HGB, HST, HBW, HRB, HTG⟩ := hrel
    have hgz := HGB.out.lt
    by_cases hlt : k < n
    · obtain ⟨v, hv⟩ : ∃ v, l[k]? = some v := ⟨_, List.getElem?_eq_getElem (by rw [← HN.out]; exact hlt)⟩
      obtain ⟨b, off, Ai, ni, ci, rfl, hbz, c0, c1, c2, c3, c4, c5⟩ := HE.out k v hv
      have HV := Lib.hid hv
      have hb5 := HBW.out
      rw [← hb5.cell (p := ⟨b, off + k * 6, none⟩) hbz] at c0
      rw [← hb5.cell (p := ⟨b, off + k * 6 + 1, none⟩) hbz] at c1
      rw [← hb5.cell (p := ⟨b, off + k * 6 + 2, none⟩) hbz] at c2
      rw [← hb5.cell (p := ⟨b, off + k * 6 + 3, none⟩) hbz] at c3
      rw [← hb5.cell (p := ⟨b, off + k * 6 + 4, none⟩) hbz] at c4
      rw [← hb5.cell (p := ⟨b, off + k * 6 + 5, none⟩) hbz] at c5
      have hlti : (k : Int) < (n : Int) := by omega
      have hki : ¬ (k : Int) < 0 := by omega
      clear hv hb5
      have x4 := HGB.out.c4
      go_upto_region 8 with (fail)
      have HEV := Lib.hid (show (wr.alloc (.cells #[.int .i64 v.kind, .int .i64 v.n, .int .i64 v.k, .int .i64 v.vn, .string v.s, .slice Ai ni ci] 51)).heap[wr.heap.size]? = some (.cells #[.int .i64 v.kind, .int .i64 v.n, .int .i64 v.k, .int .i64 v.vn, .string v.s, .slice Ai ni ci] 51 (0, 0)) from heap_alloc_new wr _)
      have HG4 := Lib.hid (SB.to HGB.out (Lib.alloc_old wr (.cells #[.int .i64 v.kind, .int .i64 v.n, .int .i64 v.k, .int .i64 v.vn, .string v.s, .slice Ai ni ci] 51) _ HGB.out.lt))
      have HR4 := Lib.hid (SB.to HRB.out (Lib.alloc_old wr (.cells #[.int .i64 v.kind, .int .i64 v.n, .int .i64 v.k, .int .i64 v.vn, .string v.s, .slice Ai ni ci] 51) _ HRB.out.lt))
      have HO4 := Lib.hid (own_below HOW.out (al (w := wr) (.cells #[.int .i64 v.kind, .int .i64 v.n, .int .i64 v.k, .int .i64 v.vn, .string v.s, .slice Ai ni ci] 51)))
      have HS4 := Lib.hid (HST.out.keep fun p hp => (al (w := wr) (.cells #[.int .i64 v.kind, .int .i64 v.n, .int .i64 v.k, .int .i64 v.vn, .string v.s, .slice Ai ni ci] 51)).cell hp.1.1.2)
      have HB4 := Lib.hid (HBW.out.alloc HBW.out.size (.cells #[.int .i64 v.kind, .int .i64 v.n, .int .i64 v.k, .int .i64 v.vn, .string v.s, .slice Ai ni ci] 51))
      have HZ4 := Lib.hid (show wr.heap.size < (wr.alloc (.cells #[.int .i64 v.kind, .int .i64 v.n, .int .i64 v.k, .int .i64 v.vn, .string v.s, .slice Ai ni ci] 51)).heap.size ∧ w.heap.size + 1 ≤ wr.heap.size from ⟨by simp, by have := HRB.out.lt; omega⟩)
      clear c0 c1 c2 c3 c4 c5 x4 HGB HRB HOW HST HBW hgz
      generalize wr.alloc (.cells #[.int .i64 v.kind, .int .i64 v.n, .int .i64 v.k, .int .i64 v.vn, .string v.s, .slice Ai ni ci] 51) = w4 at *
      generalize wr.heap.size = E at *
      by_cases h0 : s.en = 0
      · have b1 : (s.en != 0) = false := by rw [h0]; rfl
        have H0 := Lib.hid h0
        clear h0
        have x0 := HG4.out.c0
        have x1 := HG4.out.c1
        have x2 := HG4.out.c2
        have x3 := HG4.out.c3
        have x4 := HG4.out.c4
        have x5 := HG4.out.c5
        have e0 : w4.cell? ⟨E, 0, none⟩ = some (.int .i64 v.kind) := by rw [Lib.cell_of_heap HEV.out]; rfl
        have e1 : w4.cell? ⟨E, 1, none⟩ = some (.int .i64 v.n) := by rw [Lib.cell_of_heap HEV.out]; rfl
        have e2 : w4.cell? ⟨E, 2, none⟩ = some (.int .i64 v.k) := by rw [Lib.cell_of_heap HEV.out]; rfl
        have e3 : w4.cell? ⟨E, 3, none⟩ = some (.int .i64 v.vn) := by rw [Lib.cell_of_heap HEV.out]; rfl
        have e4 : w4.cell? ⟨E, 4, none⟩ = some (.string v.s) := by rw [Lib.cell_of_heap HEV.out]; rfl
        have e5 : w4.cell? ⟨E, 5, none⟩ = some (.slice Ai ni ci) := by rw [Lib.cell_of_heap HEV.out]; rfl
        have ez := HZ4.out.1
        have gz := HG4.out.lt
        go_wp2_with fail
        refine Calls.mono (stepState_any FA PA s.fr.length fc s.pn.length pc k s v Ai ni ci w4 (HS4.out.r fun b hb => by have := hb.1.1.2; omega) HIN.out (by omega) H0.out) ?_
        rintro e w5 ⟨⟨hev, rfl⟩ | ⟨r, ts, fv, pv, tv, hev, rfl, hS, hT⟩, hb5⟩
        · have HEN := Lib.hid hev
          have HR5 := Lib.hid (SB.to HR4.out (hb5.block _ HR4.out.lt))
          have HB5 := Lib.hid (HB4.out.trans (hb5.mono HB4.out.size))
          clear hb5 hev x0 x1 x2 x3 x4 x5 e0 e1 e2 e3 e4 e5 ez gz
          go_upto_region 11 with (fail)
          have HR6 := Lib.hid (SB.to HR5.out (Lib.alloc_old w5 (.cells #[.slice none 0 0, .slice none 0 0, .int .i64 0, .int .i64 0, .int .i64 0, .int .i64 0] 56) _ HR5.out.lt))
          have HB6 := Lib.hid (HB5.out.alloc HB5.out.size (.cells #[.slice none 0 0, .slice none 0 0, .int .i64 0, .int .i64 0, .int .i64 0, .int .i64 0] 56))
          clear HR5 HB5
          generalize w5.alloc (.cells #[.slice none 0 0, .slice none 0 0, .int .i64 0, .int .i64 0, .int .i64 0, .int .i64 0] 56) = w6 at *
          have r0 := HR6.out.c0
          have r1 := HR6.out.c1
          have r2 := HR6.out.c2
          have r3 := HR6.out.c3
          have r4 := HR6.out.c4
          have r5 := HR6.out.c5
          have y0 := HR6.out.z 0
          have y1 := HR6.out.z 1
          have y2 := HR6.out.z 2
          have y3 := HR6.out.z 3
          have y4 := HR6.out.z 4
          have y5 := HR6.out.z 5
          have rz6 := HR6.out.lt
          go_wp2_with fail
          obtain ⟨w7, hw7, b7, k7, l7, s7⟩ := six_at (w := w6) (g := w.heap.size) (.slice none 0 0) (.slice none 0 0) (.int .i64 0) (.int .i64 0) (.int .i64 0) (.int .i64 0) HR6.out
          rw [← hw7]
          have HB7 := Lib.hid (l7 w.heap.size (Nat.le_refl _) w HB6.out)
          have hR7 : SB w7 w.heap.size (.slice none 0 0) (.slice none 0 0) (zeroST) := b7
          clear r0 r1 r2 r3 r4 r5 y0 y1 y2 y3 y4 y5 hw7 b7 k7 l7 s7
          have r0 := hR7.c0
          have r1 := hR7.c1
          have r2 := hR7.c2
          have r3 := hR7.c3
          have r4 := hR7.c4
          have r5 := hR7.c5
          clear hR7
          refine bodyPost_ret (v := .tuple #[stV (.slice none 0 0) (.slice none 0 0) (zeroST), .slice none 0 0, .int .i64 13]) (by simp [results, Try.results16, go_sem, r0, r1, r2, r3, r4, r5, zeroST]) rfl ?_
          refine ⟨.inl ⟨HPR.out none ?_, rfl⟩, HB7.out⟩
          rw [List.drop_eq_getElem_cons (by rw [← HN.out]; exact hlt), (List.getElem?_eq_some_iff.1 HV.out).2]
          exact .bad H0.out HEN.out
        · obtain ⟨A5, c5, ds5, e5', h5⟩ := hS.fr
          obtain ⟨A6, c6, e6', h6⟩ := hS.pn
          obtain ⟨A7, c7, e7', h7a, h7b, h7⟩ := hT
          subst e5' e6' e7'
          have HEN := Lib.hid hev
          have HG5 := Lib.hid (SB.to HG4.out (hb5.block _ HG4.out.lt))
          have HR5 := Lib.hid (SB.to HR4.out (hb5.block _ HR4.out.lt))
          have HB5 := Lib.hid (HB4.out.trans (hb5.mono HB4.out.size))
          have HO5 := Lib.hid (own_below HO4.out hb5)
          have HS5 := Lib.hid hS
          have HT5 := Lib.hid h7
          have HZ5 := Lib.hid (show G < w4.heap.size ∧ w4.heap.size ≤ w5.heap.size ∧ w.heap.size < w4.heap.size from ⟨HG4.out.lt, hb5.size, HR4.out.lt⟩)
          have HOL := Lib.hid (fun b hb => (HO4.out.lt b hb).2)
          have htl : ts.length ≤ 40 := hev.len HIN.out H0.out
          clear hb5 hev hS h5 h6 h7 x0 x1 x2 x3 x4 x5 e0 e1 e2 e3 e4 e5 ez gz HG4 HR4 HB4 HO4 HS4 HEV
          go_upto_region 12 with (fail)
          have HQ6 := Lib.hid (show SB (w5.alloc (.cells #[.slice A5 r.fr.length c5, .slice A6 r.pn.length c6, .int .i64 ((r).next : Int), .int .i64 ((r).ser : Int), .int .i64 (r).en, .int .i64 (r).st] 56)) w5.heap.size (.slice A5 r.fr.length c5) (.slice A6 r.pn.length c6) r from heap_alloc_new w5 _)
          have HG6 := Lib.hid (SB.to HG5.out (Lib.alloc_old w5 (.cells #[.slice A5 r.fr.length c5, .slice A6 r.pn.length c6, .int .i64 ((r).next : Int), .int .i64 ((r).ser : Int), .int .i64 (r).en, .int .i64 (r).st] 56) _ HG5.out.lt))
          have HR6 := Lib.hid (SB.to HR5.out (Lib.alloc_old w5 (.cells #[.slice A5 r.fr.length c5, .slice A6 r.pn.length c6, .int .i64 ((r).next : Int), .int .i64 ((r).ser : Int), .int .i64 (r).en, .int .i64 (r).st] 56) _ HR5.out.lt))
          have HB6 := Lib.hid (HB5.out.alloc HB5.out.size (.cells #[.slice A5 r.fr.length c5, .slice A6 r.pn.length c6, .int .i64 ((r).next : Int), .int .i64 ((r).ser : Int), .int .i64 (r).en, .int .i64 (r).st] 56))
          have HO6 := Lib.hid (own_below HO5.out (al (w := w5) (.cells #[.slice A5 r.fr.length c5, .slice A6 r.pn.length c6, .int .i64 ((r).next : Int), .int .i64 ((r).ser : Int), .int .i64 (r).en, .int .i64 (r).st] 56)))
          have HS6 := Lib.hid (HS5.out.keep fun p hp => (al (w := w5) (.cells #[.slice A5 r.fr.length c5, .slice A6 r.pn.length c6, .int .i64 ((r).next : Int), .int .i64 ((r).ser : Int), .int .i64 (r).en, .int .i64 (r).st] 56)).cell hp.2)
          have HT6 := Lib.hid (HT5.out.keep fun p hp => (al (w := w5) (.cells #[.slice A5 r.fr.length c5, .slice A6 r.pn.length c6, .int .i64 ((r).next : Int), .int .i64 ((r).ser : Int), .int .i64 (r).en, .int .i64 (r).st] 56)).cell hp.2)
          have HZ6 := Lib.hid (show w5.heap.size < (w5.alloc (.cells #[.slice A5 r.fr.length c5, .slice A6 r.pn.length c6, .int .i64 ((r).next : Int), .int .i64 ((r).ser : Int), .int .i64 (r).en, .int .i64 (r).st] 56)).heap.size by simp)
          clear HG5 HR5 HB5 HO5 HS5 HT5
          generalize w5.alloc (.cells #[.slice A5 r.fr.length c5, .slice A6 r.pn.length c6, .int .i64 ((r).next : Int), .int .i64 ((r).ser : Int), .int .i64 (r).en, .int .i64 (r).st] 56) = w6 at *
          generalize w5.heap.size = Q at *
          have x0 := HQ6.out.c0
          have x1 := HQ6.out.c1
          have x2 := HQ6.out.c2
          have x3 := HQ6.out.c3
          have x4 := HQ6.out.c4
          have x5 := HQ6.out.c5
          have y0 := HG6.out.c0
          have z0 := HG6.out.z 0
          have y1 := HG6.out.c1
          have z1 := HG6.out.z 1
          have y2 := HG6.out.c2
          have z2 := HG6.out.z 2
          have y3 := HG6.out.c3
          have z3 := HG6.out.z 3
          have y4 := HG6.out.c4
          have z4 := HG6.out.z 4
          have y5 := HG6.out.c5
          have z5 := HG6.out.z 5
          have qz := HQ6.out.lt
          have gz := HG6.out.lt
          go_upto_region 13 with (fail)
          obtain ⟨w7, hw7, b7, k7, l7, s7⟩ := six_at (w := w6) (g := G) (.slice A5 r.fr.length c5) (.slice A6 r.pn.length c6) (.int .i64 (r.next : Int)) (.int .i64 (r.ser : Int)) (.int .i64 r.en) (.int .i64 r.st) HG6.out
          rw [← hw7]
          have HG7 := Lib.hid (show SB w7 G (.slice A5 r.fr.length c5) (.slice A6 r.pn.length c6) r from b7)
          have HGG := Lib.hid (show w.heap.size + 1 ≤ G from by have := HZ2.out; omega)
          have HR7 := Lib.hid (SB.to HR6.out (k7 _ (by have := HGG.out; omega)))
          have HB7 := Lib.hid (l7 w.heap.size (by have := HGG.out; omega) w HB6.out)
          have HO7 := Lib.hid (own_stay (w' := w7) HO6.out fun b hb => k7 b (fun e => HTG.out (by rw [hb, e])))
          have HS7 := Lib.hid (HS6.out.keep (w' := w7) fun p hp => World.cell?_of_block (k7 p.block (by have := HZ5.out; omega)))
          have HT7 := Lib.hid (HT6.out.keep (w' := w7) fun p hp => World.cell?_of_block (k7 p.block (by have := HZ5.out; omega)))
          have HZ7 := Lib.hid (show Q < w7.heap.size by rw [s7]; exact HZ6.out)
          clear x0 x1 x2 x3 x4 x5 y0 y1 y2 y3 y4 y5 z0 z1 z2 z3 z4 z5 qz gz hw7 b7 k7 l7 s7 HQ6 HG6 HR6 HB6 HO6 HS6 HT6
          obtain ⟨t0, ht, tz0, tz1, tz2⟩ := info_parts info_tell
          have HTT := Lib.hid (And.intro ht (And.intro tz0 (And.intro tz1 tz2)))
          clear ht tz0 tz1 tz2
          have htk := HTL.out
          go_wp2_with (at_builtin; refine wpList_append_rd _ rfl _ _ 57 rfl (w.heap.size + 1) 96 t0 _ 7 80 Try.underlying57 HTT.out.1 HTT.out.2.1 HTT.out.2.2.1 HTT.out.2.2.2 rfl (by omega) (.slice TA t.length tc) t.length (tlL t) rfl HO7.out w7.heap.size A7 ts.length c7 (tlL ts) rfl (HT7.out.rd fun b hb => by have := HZ7.out; omega) tlL_one (by unfold maxLen; omega) (by omega) (by have := HZ7.out; have := HZ5.out; omega) ?_; intro A8 c8 w8 hown8 hgrow8 hob8)
          have HO8 := Lib.hid hown8
          have hk8 : ∀ b, b < w7.heap.size → (Value.slice TA t.length tc).ownBlock ≠ some b → w8.heap[b]? = w7.heap[b]? := fun b hb h1 => hgrow8.block b hb (fun e => h1 e.symm)
          have hz := HZ5.out
          have hq := HZ7.out
          have hg := HGG.out
          have hgw : G < w7.heap.size := HG7.out.lt
          have hnew : ∀ b, (Value.slice A8 (t.length + ts.length) c8).ownBlock = some b → b < w4.heap.size ∨ b = w7.heap.size := fun b hb => by
            rcases hob8 with h8 | h8
            · exact .inl (HOL.out b (by rw [← h8]; exact hb))
            · rw [h8] at hb
              injection hb with hb
              exact .inr hb.symm
          have hla : (t ++ ts).length = t.length + ts.length := List.length_append
          refine ⟨⟨k + 1, r, t ++ ts, A5, A6, A8, c5, c6, c8, by omega, by rw [hla], by go_num, Lib.hid (fun o ho => HPR.out o ?_), Lib.hid (HEN.out.keeps HIN.out H0.out), Lib.hid (by rw [hla]; omega), Lib.hid (by rw [hla, show tlL (t ++ ts) = tlL t ++ tlL ts from by simp [tlL]]; exact HO8.out), Lib.hid (SB.to HG7.out (hk8 G hgw HTG.out)), Lib.hid ((HS7.out.keep (w' := w8) fun p hp => World.cell?_of_block (hk8 p.block (by omega) (fun e => by have := HOL.out _ e; omega))).more fun b hb => ?_), Lib.hid (HB7.out.grown hgrow8 HB7.out.size (fun q hq' => by have := (HO7.out.lt q hq').1; omega)), Lib.hid (SB.to HR7.out (hk8 w.heap.size (by omega) (fun e => by have := (HO7.out.lt _ e).1; omega))), Lib.hid ?_⟩, by simp [intOf]; omega⟩
          · rw [List.drop_eq_getElem_cons (by rw [← HN.out]; exact hlt), (List.getElem?_eq_some_iff.1 HV.out).2]
            exact .step H0.out HEN.out ho
          · have hzz := hgrow8.size
            rw [hla]
            exact ⟨⟨by omega, by omega⟩, fun e => by have := hnew b e; omega⟩
          · rw [hla]
            intro e
            rcases hob8 with h8 | h8
            · exact HTG.out (by rw [← h8]; exact e)
            · rw [h8] at e
              injection e with e
              omega
      · have b1 : (s.en != 0) = true := by rw [bne_iff_ne]; exact h0
        have H0 := Lib.hid h0
        clear h0
        have hez := HZ4.out.1
        have x0 := HG4.out.c0
        have x1 := HG4.out.c1
        have x2 := HG4.out.c2
        have x3 := HG4.out.c3
        have x4 := HG4.out.c4
        have x5 := HG4.out.c5
        have r0 := HR4.out.c0
        have r1 := HR4.out.c1
        have r2 := HR4.out.c2
        have r3 := HR4.out.c3
        have r4 := HR4.out.c4
        have r5 := HR4.out.c5
        have y0 := HR4.out.z 0
        have y1 := HR4.out.z 1
        have y2 := HR4.out.z 2
        have y3 := HR4.out.z 3
        have y4 := HR4.out.z 4
        have y5 := HR4.out.z 5
        have gz := HG4.out.lt
        have rz := HR4.out.lt
        go_wp2_with fail
        obtain ⟨w7, hw7, b7, k7, l7, s7⟩ := six_at (w := w4) (g := w.heap.size) (.slice FA s.fr.length fc) (.slice PA s.pn.length pc) (.int .i64 ((s).next : Int)) (.int .i64 ((s).ser : Int)) (.int .i64 (s).en) (.int .i64 (s).st) HR4.out
        rw [← hw7]
        have HB7 := Lib.hid (l7 w.heap.size (Nat.le_refl _) w HB4.out)
        have HS7 := Lib.hid (HS4.out.keep (w' := w7) fun p hp => World.cell?_of_block (k7 p.block (by have := hp.1.1.1; omega)))
        have HO7 := Lib.hid (own_stay (w' := w7) HO4.out fun b hb => k7 b (fun e => by have := (HO4.out.lt b hb).1; omega))
        have HZ7 := Lib.hid s7
        have hR7 : SB w7 w.heap.size (.slice FA s.fr.length fc) (.slice PA s.pn.length pc) (s) := b7
        clear r0 r1 r2 r3 r4 r5 y0 y1 y2 y3 y4 y5 hw7 b7 k7 l7 s7
        have r0 := hR7.c0
        have r1 := hR7.c1
        have r2 := hR7.c2
        have r3 := hR7.c3
        have r4 := hR7.c4
        have r5 := hR7.c5
        clear hR7
        refine bodyPost_ret (v := .tuple #[stV (.slice FA s.fr.length fc) (.slice PA s.pn.length pc) (s), .slice TA t.length tc, .int .i64 0]) (by simp [results, Try.results16, go_sem, r0, r1, r2, r3, r4, r5]) rfl ?_
        refine ⟨.inr ⟨s, t, _, _, _, HPR.out (some (s, t)) ?_, rfl, HS7.out.r (fun b hb => by have := hb.1.1.2; rw [HZ7.out]; omega), own_read7 HO7.out⟩, HB7.out⟩
        rw [List.drop_eq_getElem_cons (by rw [← HN.out]; exact hlt), (List.getElem?_eq_some_iff.1 HV.out).2]
        exact .over H0.out
    · have hlti : ¬ (k : Int) < (n : Int) := by omega
      have x0 := HGB.out.c0
      have x1 := HGB.out.c1
      have x2 := HGB.out.c2
      have x3 := HGB.out.c3
      have x4 := HGB.out.c4
      have x5 := HGB.out.c5
      have r0 := HRB.out.c0
      have r1 := HRB.out.c1
      have r2 := HRB.out.c2
      have r3 := HRB.out.c3
      have r4 := HRB.out.c4
      have r5 := HRB.out.c5
      have y0 := HRB.out.z 0
      have y1 := HRB.out.z 1
      have y2 := HRB.out.z 2
      have y3 := HRB.out.z 3
      have y4 := HRB.out.z 4
      have y5 := HRB.out.z 5
      have gz := HGB.out.lt
      have rz := HRB.out.lt
      go_wp2_with fail
      obtain ⟨w7, hw7, b7, k7, l7, s7⟩ := six_at (w := wr) (g := w.heap.size) (.slice FA s.fr.length fc) (.slice PA s.pn.length pc) (.int .i64 ((s).next : Int)) (.int .i64 ((s).ser : Int)) (.int .i64 (s).en) (.int .i64 (s).st) HRB.out
      rw [← hw7]
      have HB7 := Lib.hid (l7 w.heap.size (Nat.le_refl _) w HBW.out)
      have HS7 := Lib.hid (HST.out.keep (w' := w7) fun p hp => World.cell?_of_block (k7 p.block (by have := hp.1.1.1; omega)))
      have HO7 := Lib.hid (own_stay (w' := w7) HOW.out fun b hb => k7 b (fun e => by have := (HOW.out.lt b hb).1; omega))
      have HZ7 := Lib.hid s7
      have hR7 : SB w7 w.heap.size (.slice FA s.fr.length fc) (.slice PA s.pn.length pc) (s) := b7
      clear r0 r1 r2 r3 r4 r5 y0 y1 y2 y3 y4 y5 hw7 b7 k7 l7 s7
      have r0 := hR7.c0
      have r1 := hR7.c1
      have r2 := hR7.c2
      have r3 := hR7.c3
      have r4 := hR7.c4
      have r5 := hR7.c5
      clear hR7
      refine bodyPost_ret (v := .tuple #[stV (.slice FA s.fr.length fc) (.slice PA s.pn.length pc) (s), .slice TA t.length tc, .int .i64 0]) (by simp [results, Try.results16, go_sem, r0, r1, r2, r3, r4, r5]) rfl ?_
      refine ⟨.inr ⟨s, t, _, _, _, HPR.out (some (s, t)) ?_, rfl, HS7.out.r (fun b hb => by have := hb.1.1.2; rw [HZ7.out]; omega), own_read7 HO7.out⟩, HB7.out⟩
      rw [List.drop_eq_nil_of_le (by rw [← HN.out]; omega)]
      exact .nil
end Go.Proofs.Ytapofohbngkekaa
