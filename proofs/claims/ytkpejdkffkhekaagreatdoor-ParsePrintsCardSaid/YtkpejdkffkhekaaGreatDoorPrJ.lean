/- The printer: statements. Conditions: the nodes ahead are printed right. -/
import Derived.Test.YtkpejdkffkhekaaGreatDoorPrW
import Derived.Deep.RegionHeld3
set_option maxRecDepth 100000
namespace Go.Proofs.YtkpejdkffkhekaaGreatDoor
open Go.ChangeShapes Go.WideShapes Go.ChangeAt Go.RowKit
/-- The printer in the midst of a statement: its state, the node's box. -/
structure Sto (w0 : World) (g : Nat) (tr : Value) (d : Int) (w : World) (BK : Array Value) (L : List UInt8) (wx : World) : Prop where
  sx : Sx w0 g tr d L wx
  kp : Kpt g w wx
  bk : wx.heap[w.heap.size]? = some (.cells BK 31 (0, 0))
  hw : w.heap.size ≠ g
  le : w.heap.size ≤ wx.heap.size
theorem Sto.step {w0 w wx w' : World} {g : Nat} {tr : Value} {d : Int} {BK : Array Value} {L L' : List UInt8} (h : Sto w0 g tr d w BK L wx) (hs : Sx w0 g tr d L' w') (hk : Kpt g wx.drew w') (hz : wx.drew.heap.size ≤ w'.heap.size) : Sto w0 g tr d w BK L' w' := by
  have hz2 : wx.heap.size ≤ w'.heap.size := hz
  have := h.le
  exact ⟨hs, h.kp.trans ((kptBel (dr (Below.refl _ _) 1)).trans hk), kptBox hk h.bk h.hw (by decide), h.hw, by omega⟩
theorem Sto.step0 {w0 w wx w' : World} {g : Nat} {tr : Value} {d : Int} {BK : Array Value} {L L' : List UInt8} (h : Sto w0 g tr d w BK L wx) (hs : Sx w0 g tr d L' w') (hk : Kpt g wx w') (hz : wx.heap.size ≤ w'.heap.size) : Sto w0 g tr d w BK L' w' := by
  have := h.le
  exact ⟨hs, h.kp.trans hk, kptBox hk h.bk h.hw (by decide), h.hw, by omega⟩
theorem Sto.to {w0 w wx : World} {g : Nat} {tr : Value} {d : Int} {BK : Array Value} {L L' : List UInt8} (h : Sto w0 g tr d w BK L wx) (e : L = L') : Sto w0 g tr d w BK L' wx := e ▸ h
theorem Sto.facts {w0 w wx : World} {g b off c k q j n b5 o5 c4 c6 : Nat} {T : List ND} {d x0 x3 : Int} {x1 x2 : ByteArray} {A6 : Option Addr} {L : List UInt8} (h : Sto w0 g (trV b off c T) d w #[.int .i64 x0, .string x1, .string x2, .int .i64 x3, .slice (some ⟨b5, o5, none⟩) n c4] L wx) (hnv : NodeV w0 b off T k (some ⟨b5, o5, none⟩) c4) (hq : (ndT T k).kids[j]? = some (q : Int)) (hnq : NodeV w0 b off T q A6 c6) : (wx.cell? ⟨g, 2, none⟩ = some (trV b off c T) ∧ wx.cell? ⟨w.heap.size, 4, none⟩ = some (.slice (some ⟨b5, o5, none⟩) n c4) ∧ wx.cell? ⟨b5, o5 + j, none⟩ = some (.int .i64 (q : Int))) ∧ wx.cell? ⟨b, off + q * 5, none⟩ = some (.int .i64 (ndT T q).kind) ∧ wx.cell? ⟨b, off + q * 5 + 1, none⟩ = some (.string (ndT T q).text) ∧ wx.cell? ⟨b, off + q * 5 + 2, none⟩ = some (.string (ndT T q).typ) ∧ wx.cell? ⟨b, off + q * 5 + 3, none⟩ = some (.int .i64 (ndT T q).num) ∧ wx.cell? ⟨b, off + q * 5 + 4, none⟩ = some (.slice A6 (ndT T q).kids.length c6) := by
  refine ⟨⟨h.sx.cells.1, (box_cells h.bk).2.2.2.2, ?_⟩, hnq.cells h.sx.bel⟩
  obtain ⟨b', o', e1, _, _, z0⟩ := hnv.kid h.sx.bel hq
  injection e1 with e1
  injection e1 with e1 e2
  subst e1 e2
  exact z0
section
variable (w0 : World) (g b off c : Nat) (T : List ND)
/-- 'statement' at one node. -/
def StN (q : Nat) (A4 : Option Addr) (c4 d : Nat) (L : List UInt8) (w : World) : Prop := Calls Tryz.prog 46 #[.pointer (some ⟨g, 0, none⟩), ndW (ndT T q) A4 c4] w (PrR w0 g (trV b off c T) (d : Int) (L ++ prN T q d) w)
end
section
variable {w0 w : World} {g b off c k c4 d : Nat} {T : List ND} {m : Int} {A4 : Option Addr} {L : List UInt8}

theorem txb_len (s : ByteArray) : (txB s).length = s.size := rfl
set_option maxHeartbeats 4000000 in
theorem st_5 (hbl : BlC w0 g b off c T k) (hnv : NodeV w0 b off T k A4 c4) (e : (ndT T k).kind = 5) (h : Sx w0 g (trV b off c T) (d : Int) L w) (hd : d + k ≤ 9000) (hl : L.length + (prN T k d).length ≤ 1099511627776) : StN w0 g b off c T k A4 c4 d L w := by
  have HW := Lib.hid (hbl _ _ hnv e d _ _ (h.keep (al (w := w) (.cells #[.int .i64 5, .string (ndT T k).text, .string (ndT T k).typ, .int .i64 (ndT T k).num, .slice A4 (ndT T k).kids.length c4] 31))) hd hl)
  have HK := Lib.hid (kptBel (g := g) (al (w := w) (.cells #[.int .i64 5, .string (ndT T k).text, .string (ndT T k).typ, .int .i64 (ndT T k).num, .slice A4 (ndT T k).kids.length c4] 31)))
  unfold ndW at HW
  unfold StN ndW
  rw [e] at HW ⊢
  clear h hbl hnv hl e
  go_enter Tryz.func46, Tryz.ntmps46
  go_wp2_with fail
  refine Calls.mono HW.out ?_
  rintro e w1 ⟨rfl, h1, hk1, hs1⟩
  have H1 := Lib.hid h1
  have HK1 := Lib.hid (HK.out.trans hk1)
  have hw1 : w.heap.size ≤ w1.heap.size := by simp at hs1; omega
  clear h1 hk1 hs1
  go_wp2_with fail
  go_end0
  exact ⟨rfl, H1.out, HK1.out, hw1⟩
set_option maxHeartbeats 8000000 in
theorem st_8 (hev : Ev w0 (some ⟨b, off, none⟩) c T m) (hex : ∀ q, q < k → ExC w0 g b off c T q) (hnv : NodeV w0 b off T k A4 c4) (e : (ndT T k).kind = 8) (h : Sx w0 g (trV b off c T) (d : Int) L w) (hd : d + k ≤ 9000) (hl : L.length + (prN T k d).length ≤ 1099511627776) : StN w0 g b off c T k A4 c4 d L w := by
  have hkT := hnv.lt
  have hkn : (ndT T k).kids.length = 2 := by
    have hc := cnt_at hev.good hkT
    unfold cntN at hc
    rw [e] at hc
    simp at hc
    omega
  obtain ⟨q, hq, hq2, hqk, hqf⟩ := kid_at hev.good hkT (j := 0) (by omega)
  obtain ⟨Aq, cq, hnq⟩ := hev.node (show q < T.length by omega)
  have hqF : isE (ndT T q).kind = true := by
    unfold kidN at hqf
    rw [e] at hqf
    (try rw [hkn] at hqf)
    simp at hqf
    first | exact hqf | (rw [hqf]; rfl) | omega
  have HqF := Lib.hid hqF
  have HNq := Lib.hid hnq
  have HKq := Lib.hid hq
  have HqT : (q : Int) < (T.length : Int) := by omega
  have HCq := Lib.hid (hex q hqk)
  obtain ⟨p, hp, hp2, hpk, hpf⟩ := kid_at hev.good hkT (j := 1) (by omega)
  obtain ⟨Ap, cp, hnp⟩ := hev.node (show p < T.length by omega)
  have hpF : isE (ndT T p).kind = true := by
    unfold kidN at hpf
    rw [e] at hpf
    (try rw [hkn] at hpf)
    simp at hpf
    first | exact hpf | (rw [hpf]; rfl) | omega
  have HpF := Lib.hid hpF
  have HNp := Lib.hid hnp
  have HKp := Lib.hid hp
  have HpT : (p : Int) < (T.length : Int) := by omega
  have HCp := Lib.hid (hex p hpk)
  obtain ⟨b5, o5, rfl, _, hb5, _⟩ := hnv.kid h.bel hq
  have HTX := Lib.hid (show prN T k d = prN T q d ++ [32, 61, 32] ++ prN T p d by
    rw [ ← prT_kid hqk, ← hq2, ← prT_kid hpk, ← hp2]
    unfold prN prS
    simp [e])
  have HL := Lib.hid (show L.length + ((prN T q d).length + 3 + (prN T p d).length) ≤ 1099511627776 by
    rw [HTX.out] at hl
    (try simp at hl)
    (try rw [txb_len] at hl)
    omega)
  have HNV := Lib.hid hnv
  have hgw := h.lt
  obtain ⟨wb, hwb, hbx, hbl0, hbs⟩ := box_new w 8 (ndT T k).num (ndT T k).text (ndT T k).typ (.slice (some ⟨b5, o5, none⟩) 2 c4)
  have HT := Lib.hid (show Sto w0 g (trV b off c T) (d : Int) w #[.int .i64 8, .string (ndT T k).text, .string (ndT T k).typ, .int .i64 (ndT T k).num, .slice (some ⟨b5, o5, none⟩) 2 c4] L wb from ⟨h.keep hbl0, kptBel hbl0, hbx, by omega, by omega⟩)
  obtain ⟨b0, b1, b2, b3, b4⟩ := box_cells hbx
  unfold StN ndW
  rw [e, hkn]
  clear h hev hnv hl e hbx hbl0 hq hq2 hqf hqF hnq hp hp2 hpf hpF hnp hkn hex
  go_enter Tryz.func46, Tryz.ntmps46
  go_wp2_with fail
  clear hwb b0 b1 b2 b3 b4
  obtain ⟨⟨t2, b4, z0⟩, v0, v1, v2, v3, v4⟩ := HT.out.facts HNV.out HKq.out HNq.out
  rw [Nat.add_zero] at z0
  have HWI := Lib.hid (HCq.out _ _ HNq.out HqF.out d _ _ (HT.out.sx.keep (dr (Below.refl _ _) 1)) (by omega) (by have h9 := HL.out; first | omega | (simp; omega)))
  unfold ndW at HWI
  go_wp2_with fail
  go_still_tail 11, (by kernel_rfl)
  change wpList _ _ _ _ _ wb.drew
  go_wp2_with fail
  refine Calls.mono HWI.out ?_
  rintro e w1 ⟨rfl, hn, hkn, hsn⟩
  have HT2 := Lib.hid (HT.out.step (hn.to (L' := L ++ prN T q d) rfl) hkn hsn)
  clear hn hkn hsn HT
  have HT := HT2
  clear HT2
  clear t2 b4 z0 v0 v1 v2 v3 v4 HWI
  go_wp2_with fail
  refine Calls.mono (wStr ⟨#[32, 61, 32]⟩ HT.out.sx (by have h9 := HL.out; show _ + 3 ≤ _; first | omega | (simp; omega))) ?_
  rintro e w2 ⟨rfl, hn, hkn, hsn⟩
  have HT2 := Lib.hid (HT.out.step0 (hn.to (L' := L ++ prN T q d ++ [32, 61, 32]) rfl) hkn hsn)
  clear hn hkn hsn HT
  have HT := HT2
  clear HT2
  obtain ⟨⟨t2, b4, z0⟩, v0, v1, v2, v3, v4⟩ := HT.out.facts HNV.out HKp.out HNp.out
  have HWI := Lib.hid (HCp.out _ _ HNp.out HpF.out d _ _ (HT.out.sx.keep (dr (Below.refl _ _) 1)) (by omega) (by have h9 := HL.out; first | omega | (simp; omega)))
  unfold ndW at HWI
  go_wp2_with fail
  go_still_tail 11, (by kernel_rfl)
  change wpList _ _ _ _ _ w2.drew
  go_wp2_with fail
  refine Calls.mono HWI.out ?_
  rintro e w3 ⟨rfl, hn, hkn, hsn⟩
  have HT2 := Lib.hid (HT.out.step (hn.to (L' := L ++ prN T q d ++ [32, 61, 32] ++ prN T p d) rfl) hkn hsn)
  clear hn hkn hsn HT
  have HT := HT2
  clear HT2
  clear t2 b4 z0 v0 v1 v2 v3 v4 HWI
  go_wp2_with fail
  go_end0
  exact ⟨rfl, HT.out.sx.to (by rw [HTX.out]; (try simp)), HT.out.kp, HT.out.le⟩
set_option maxHeartbeats 8000000 in
theorem st_12  (hnv : NodeV w0 b off T k A4 c4) (e : (ndT T k).kind = 12) (h : Sx w0 g (trV b off c T) (d : Int) L w) (hl : L.length + (prN T k d).length ≤ 1099511627776) : StN w0 g b off c T k A4 c4 d L w := by
  have hkT := hnv.lt
  have HTX := Lib.hid (show prN T k d = [98, 114, 101, 97, 107] by
    unfold prN prS
    simp [e])
  have HL := Lib.hid (show L.length + (5) ≤ 1099511627776 by
    rw [HTX.out] at hl
    (try simp at hl)
    (try rw [txb_len] at hl)
    omega)
  have HNV := Lib.hid hnv
  have hgw := h.lt
  obtain ⟨wb, hwb, hbx, hbl0, hbs⟩ := box_new w 12 (ndT T k).num (ndT T k).text (ndT T k).typ (.slice A4 (ndT T k).kids.length c4)
  have HT := Lib.hid (show Sto w0 g (trV b off c T) (d : Int) w #[.int .i64 12, .string (ndT T k).text, .string (ndT T k).typ, .int .i64 (ndT T k).num, .slice A4 (ndT T k).kids.length c4] L wb from ⟨h.keep hbl0, kptBel hbl0, hbx, by omega, by omega⟩)
  obtain ⟨b0, b1, b2, b3, b4⟩ := box_cells hbx
  unfold StN ndW
  rw [e]
  clear h hnv hl e hbx hbl0
  go_enter Tryz.func46, Tryz.ntmps46
  go_wp2_with fail
  clear hwb b0 b1 b2 b3 b4
  refine Calls.mono (wStr ⟨#[98, 114, 101, 97, 107]⟩ HT.out.sx (by have h9 := HL.out; show _ + 5 ≤ _; first | omega | (simp; omega))) ?_
  rintro e w1 ⟨rfl, hn, hkn, hsn⟩
  have HT2 := Lib.hid (HT.out.step0 (hn.to (L' := L ++ [98, 114, 101, 97, 107]) rfl) hkn hsn)
  clear hn hkn hsn HT
  have HT := HT2
  clear HT2
  go_wp2_with fail
  go_end0
  exact ⟨rfl, HT.out.sx.to (by rw [HTX.out]; (try simp)), HT.out.kp, HT.out.le⟩
set_option maxHeartbeats 8000000 in
theorem st_13  (hnv : NodeV w0 b off T k A4 c4) (e : (ndT T k).kind = 13) (h : Sx w0 g (trV b off c T) (d : Int) L w) (hl : L.length + (prN T k d).length ≤ 1099511627776) : StN w0 g b off c T k A4 c4 d L w := by
  have hkT := hnv.lt
  have HTX := Lib.hid (show prN T k d = [99, 111, 110, 116, 105, 110, 117, 101] by
    unfold prN prS
    simp [e])
  have HL := Lib.hid (show L.length + (8) ≤ 1099511627776 by
    rw [HTX.out] at hl
    (try simp at hl)
    (try rw [txb_len] at hl)
    omega)
  have HNV := Lib.hid hnv
  have hgw := h.lt
  obtain ⟨wb, hwb, hbx, hbl0, hbs⟩ := box_new w 13 (ndT T k).num (ndT T k).text (ndT T k).typ (.slice A4 (ndT T k).kids.length c4)
  have HT := Lib.hid (show Sto w0 g (trV b off c T) (d : Int) w #[.int .i64 13, .string (ndT T k).text, .string (ndT T k).typ, .int .i64 (ndT T k).num, .slice A4 (ndT T k).kids.length c4] L wb from ⟨h.keep hbl0, kptBel hbl0, hbx, by omega, by omega⟩)
  obtain ⟨b0, b1, b2, b3, b4⟩ := box_cells hbx
  unfold StN ndW
  rw [e]
  clear h hnv hl e hbx hbl0
  go_enter Tryz.func46, Tryz.ntmps46
  go_wp2_with fail
  clear hwb b0 b1 b2 b3 b4
  refine Calls.mono (wStr ⟨#[99, 111, 110, 116, 105, 110, 117, 101]⟩ HT.out.sx (by have h9 := HL.out; show _ + 8 ≤ _; first | omega | (simp; omega))) ?_
  rintro e w1 ⟨rfl, hn, hkn, hsn⟩
  have HT2 := Lib.hid (HT.out.step0 (hn.to (L' := L ++ [99, 111, 110, 116, 105, 110, 117, 101]) rfl) hkn hsn)
  clear hn hkn hsn HT
  have HT := HT2
  clear HT2
  go_wp2_with fail
  go_end0
  exact ⟨rfl, HT.out.sx.to (by rw [HTX.out]; (try simp)), HT.out.kp, HT.out.le⟩
set_option maxHeartbeats 8000000 in
theorem st_10_2 (hev : Ev w0 (some ⟨b, off, none⟩) c T m) (hex : ∀ q, q < k → ExC w0 g b off c T q) (hbl : ∀ q, q < k → BlC w0 g b off c T q) (hnv : NodeV w0 b off T k A4 c4) (e : (ndT T k).kind = 10) (hk2 : (ndT T k).kids.length = 2) (h : Sx w0 g (trV b off c T) (d : Int) L w) (hd : d + k ≤ 9000) (hl : L.length + (prN T k d).length ≤ 1099511627776) : StN w0 g b off c T k A4 c4 d L w := by
  have hkT := hnv.lt
  have hkn : (ndT T k).kids.length = 2 := by
    have hc := cnt_at hev.good hkT
    unfold cntN at hc
    rw [e] at hc
    simp at hc
    omega
  obtain ⟨q, hq, hq2, hqk, hqf⟩ := kid_at hev.good hkT (j := 0) (by omega)
  obtain ⟨Aq, cq, hnq⟩ := hev.node (show q < T.length by omega)
  have hqF : isE (ndT T q).kind = true := by
    unfold kidN at hqf
    rw [e] at hqf
    (try rw [hkn] at hqf)
    simp at hqf
    first | exact hqf | (rw [hqf]; rfl) | omega
  have HqF := Lib.hid hqF
  have HNq := Lib.hid hnq
  have HKq := Lib.hid hq
  have HqT : (q : Int) < (T.length : Int) := by omega
  have HCq := Lib.hid (hex q hqk)
  obtain ⟨p, hp, hp2, hpk, hpf⟩ := kid_at hev.good hkT (j := 1) (by omega)
  obtain ⟨Ap, cp, hnp⟩ := hev.node (show p < T.length by omega)
  have hpF : (ndT T p).kind = 5 := by
    unfold kidN at hpf
    rw [e] at hpf
    (try rw [hkn] at hpf)
    simp at hpf
    first | exact hpf | (rw [hpf]; rfl) | omega
  have HpF := Lib.hid hpF
  have HNp := Lib.hid hnp
  have HKp := Lib.hid hp
  have HpT : (p : Int) < (T.length : Int) := by omega
  have HCp := Lib.hid (hbl p hpk)
  obtain ⟨b5, o5, rfl, _, hb5, _⟩ := hnv.kid h.bel hq
  have HTX := Lib.hid (show prN T k d = [105, 102, 32] ++ prN T q d ++ [32] ++ prN T p d ++ [] by
    rw [ ← prT_kid hqk, ← hq2, ← prT_kid hpk, ← hp2]
    unfold prN prS
    simp [e, hkn])
  have HL := Lib.hid (show L.length + (3 + (prN T q d).length + 1 + (prN T p d).length) ≤ 1099511627776 by
    rw [HTX.out] at hl
    (try simp at hl)
    (try rw [txb_len] at hl)
    omega)
  have HNV := Lib.hid hnv
  have hgw := h.lt
  obtain ⟨wb, hwb, hbx, hbl0, hbs⟩ := box_new w 10 (ndT T k).num (ndT T k).text (ndT T k).typ (.slice (some ⟨b5, o5, none⟩) 2 c4)
  have HT := Lib.hid (show Sto w0 g (trV b off c T) (d : Int) w #[.int .i64 10, .string (ndT T k).text, .string (ndT T k).typ, .int .i64 (ndT T k).num, .slice (some ⟨b5, o5, none⟩) 2 c4] L wb from ⟨h.keep hbl0, kptBel hbl0, hbx, by omega, by omega⟩)
  obtain ⟨b0, b1, b2, b3, b4⟩ := box_cells hbx
  unfold StN ndW
  rw [e, hkn]
  clear h hev hnv hl e hbx hbl0 hq hq2 hqf hqF hnq hp hp2 hpf hpF hnp hkn hex hbl hk2
  go_enter Tryz.func46, Tryz.ntmps46
  go_wp2_with fail
  clear hwb b0 b1 b2 b3 b4
  refine Calls.mono (wStr ⟨#[105, 102, 32]⟩ HT.out.sx (by have h9 := HL.out; show _ + 3 ≤ _; first | omega | (simp; omega))) ?_
  rintro e w1 ⟨rfl, hn, hkn, hsn⟩
  have HT2 := Lib.hid (HT.out.step0 (hn.to (L' := L ++ [105, 102, 32]) rfl) hkn hsn)
  clear hn hkn hsn HT
  have HT := HT2
  clear HT2
  obtain ⟨⟨t2, b4, z0⟩, v0, v1, v2, v3, v4⟩ := HT.out.facts HNV.out HKq.out HNq.out
  rw [Nat.add_zero] at z0
  have HWI := Lib.hid (HCq.out _ _ HNq.out HqF.out d _ _ (HT.out.sx.keep (dr (Below.refl _ _) 1)) (by omega) (by have h9 := HL.out; first | omega | (simp; omega)))
  unfold ndW at HWI
  go_wp2_with fail
  go_still_tail 11, (by kernel_rfl)
  change wpList _ _ _ _ _ w1.drew
  go_wp2_with fail
  refine Calls.mono HWI.out ?_
  rintro e w2 ⟨rfl, hn, hkn, hsn⟩
  have HT2 := Lib.hid (HT.out.step (hn.to (L' := L ++ [105, 102, 32] ++ prN T q d) rfl) hkn hsn)
  clear hn hkn hsn HT
  have HT := HT2
  clear HT2
  clear t2 b4 z0 v0 v1 v2 v3 v4 HWI
  go_wp2_with fail
  refine Calls.mono (wByte 32 HT.out.sx (by have h9 := HL.out; first | omega | (simp; omega))) ?_
  rintro e w3 ⟨rfl, hn, hkn, hsn⟩
  have HT2 := Lib.hid (HT.out.step0 (hn.to (L' := L ++ [105, 102, 32] ++ prN T q d ++ [32]) rfl) hkn hsn)
  clear hn hkn hsn HT
  have HT := HT2
  clear HT2
  obtain ⟨⟨t2, b4, z0⟩, v0, v1, v2, v3, v4⟩ := HT.out.facts HNV.out HKp.out HNp.out
  have HWI := Lib.hid (HCp.out _ _ HNp.out HpF.out d _ _ (HT.out.sx.keep (dr (Below.refl _ _) 1)) (by omega) (by have h9 := HL.out; first | omega | (simp; omega)))
  unfold ndW at HWI
  rw [HpF.out] at HWI v0
  go_wp2_with fail
  go_still_tail 11, (by kernel_rfl)
  change wpList _ _ _ _ _ w3.drew
  go_wp2_with fail
  refine Calls.mono HWI.out ?_
  rintro e w4 ⟨rfl, hn, hkn, hsn⟩
  have HT2 := Lib.hid (HT.out.step (hn.to (L' := L ++ [105, 102, 32] ++ prN T q d ++ [32] ++ prN T p d) rfl) hkn hsn)
  clear hn hkn hsn HT
  have HT := HT2
  clear HT2
  clear t2 b4 z0 v0 v1 v2 v3 v4 HWI
  have b4 := (box_cells HT.out.bk).2.2.2.2
  go_wp2_with fail
  go_end0
  exact ⟨rfl, HT.out.sx.to (by rw [HTX.out]; (try simp)), HT.out.kp, HT.out.le⟩
set_option maxHeartbeats 8000000 in
theorem st_10_3 (hev : Ev w0 (some ⟨b, off, none⟩) c T m) (hex : ∀ q, q < k → ExC w0 g b off c T q) (hbl : ∀ q, q < k → BlC w0 g b off c T q) (hst : ∀ q, q < k → StC w0 g b off c T q) (hnv : NodeV w0 b off T k A4 c4) (e : (ndT T k).kind = 10) (hk3 : (ndT T k).kids.length = 3) (h : Sx w0 g (trV b off c T) (d : Int) L w) (hd : d + k ≤ 9000) (hl : L.length + (prN T k d).length ≤ 1099511627776) : StN w0 g b off c T k A4 c4 d L w := by
  have hkT := hnv.lt
  have hkn : (ndT T k).kids.length = 3 := by
    have hc := cnt_at hev.good hkT
    unfold cntN at hc
    rw [e] at hc
    simp at hc
    omega
  obtain ⟨q, hq, hq2, hqk, hqf⟩ := kid_at hev.good hkT (j := 0) (by omega)
  obtain ⟨Aq, cq, hnq⟩ := hev.node (show q < T.length by omega)
  have hqF : isE (ndT T q).kind = true := by
    unfold kidN at hqf
    rw [e] at hqf
    (try rw [hkn] at hqf)
    simp at hqf
    first | exact hqf | (rw [hqf]; rfl) | omega
  have HqF := Lib.hid hqF
  have HNq := Lib.hid hnq
  have HKq := Lib.hid hq
  have HqT : (q : Int) < (T.length : Int) := by omega
  have HCq := Lib.hid (hex q hqk)
  obtain ⟨p, hp, hp2, hpk, hpf⟩ := kid_at hev.good hkT (j := 1) (by omega)
  obtain ⟨Ap, cp, hnp⟩ := hev.node (show p < T.length by omega)
  have hpF : (ndT T p).kind = 5 := by
    unfold kidN at hpf
    rw [e] at hpf
    (try rw [hkn] at hpf)
    simp at hpf
    first | exact hpf | (rw [hpf]; rfl) | omega
  have HpF := Lib.hid hpF
  have HNp := Lib.hid hnp
  have HKp := Lib.hid hp
  have HpT : (p : Int) < (T.length : Int) := by omega
  have HCp := Lib.hid (hbl p hpk)
  obtain ⟨s, hs, hs2, hsk, hsf⟩ := kid_at hev.good hkT (j := 2) (by omega)
  obtain ⟨As, cs, hns⟩ := hev.node (show s < T.length by omega)
  have hsF : 5 ≤ (ndT T s).kind ∧ (ndT T s).kind ≤ 15 := by
    unfold kidN at hsf
    rw [e] at hsf
    (try rw [hkn] at hsf)
    simp at hsf
    first | exact hsf | (rw [hsf]; rfl) | omega
  have HsF := Lib.hid hsF
  have HNs := Lib.hid hns
  have HKs := Lib.hid hs
  have HsT : (s : Int) < (T.length : Int) := by omega
  have HCs := Lib.hid (hst s hsk)
  obtain ⟨b5, o5, rfl, _, hb5, _⟩ := hnv.kid h.bel hq
  have HTX := Lib.hid (show prN T k d = [105, 102, 32] ++ prN T q d ++ [32] ++ prN T p d ++ ([32, 101, 108, 115, 101, 32] ++ prN T s d) by
    rw [ ← prT_kid hqk, ← hq2, ← prT_kid hpk, ← hp2, ← prT_kid hsk, ← hs2]
    unfold prN prS
    simp [e, hkn])
  have HL := Lib.hid (show L.length + (3 + (prN T q d).length + 1 + (prN T p d).length + 6 + (prN T s d).length) ≤ 1099511627776 by
    rw [HTX.out] at hl
    (try simp at hl)
    (try rw [txb_len] at hl)
    omega)
  have HNV := Lib.hid hnv
  have hgw := h.lt
  obtain ⟨wb, hwb, hbx, hbl0, hbs⟩ := box_new w 10 (ndT T k).num (ndT T k).text (ndT T k).typ (.slice (some ⟨b5, o5, none⟩) 3 c4)
  have HT := Lib.hid (show Sto w0 g (trV b off c T) (d : Int) w #[.int .i64 10, .string (ndT T k).text, .string (ndT T k).typ, .int .i64 (ndT T k).num, .slice (some ⟨b5, o5, none⟩) 3 c4] L wb from ⟨h.keep hbl0, kptBel hbl0, hbx, by omega, by omega⟩)
  obtain ⟨b0, b1, b2, b3, b4⟩ := box_cells hbx
  unfold StN ndW
  rw [e, hkn]
  clear h hev hnv hl e hbx hbl0 hq hq2 hqf hqF hnq hp hp2 hpf hpF hnp hs hs2 hsf hsF hns hkn hex hbl hst hk3
  go_enter Tryz.func46, Tryz.ntmps46
  go_wp2_with fail
  clear hwb b0 b1 b2 b3 b4
  refine Calls.mono (wStr ⟨#[105, 102, 32]⟩ HT.out.sx (by have h9 := HL.out; show _ + 3 ≤ _; first | omega | (simp; omega))) ?_
  rintro e w1 ⟨rfl, hn, hkn, hsn⟩
  have HT2 := Lib.hid (HT.out.step0 (hn.to (L' := L ++ [105, 102, 32]) rfl) hkn hsn)
  clear hn hkn hsn HT
  have HT := HT2
  clear HT2
  obtain ⟨⟨t2, b4, z0⟩, v0, v1, v2, v3, v4⟩ := HT.out.facts HNV.out HKq.out HNq.out
  rw [Nat.add_zero] at z0
  have HWI := Lib.hid (HCq.out _ _ HNq.out HqF.out d _ _ (HT.out.sx.keep (dr (Below.refl _ _) 1)) (by omega) (by have h9 := HL.out; first | omega | (simp; omega)))
  unfold ndW at HWI
  go_wp2_with fail
  go_still_tail 11, (by kernel_rfl)
  change wpList _ _ _ _ _ w1.drew
  go_wp2_with fail
  refine Calls.mono HWI.out ?_
  rintro e w2 ⟨rfl, hn, hkn, hsn⟩
  have HT2 := Lib.hid (HT.out.step (hn.to (L' := L ++ [105, 102, 32] ++ prN T q d) rfl) hkn hsn)
  clear hn hkn hsn HT
  have HT := HT2
  clear HT2
  clear t2 b4 z0 v0 v1 v2 v3 v4 HWI
  go_wp2_with fail
  refine Calls.mono (wByte 32 HT.out.sx (by have h9 := HL.out; first | omega | (simp; omega))) ?_
  rintro e w3 ⟨rfl, hn, hkn, hsn⟩
  have HT2 := Lib.hid (HT.out.step0 (hn.to (L' := L ++ [105, 102, 32] ++ prN T q d ++ [32]) rfl) hkn hsn)
  clear hn hkn hsn HT
  have HT := HT2
  clear HT2
  obtain ⟨⟨t2, b4, z0⟩, v0, v1, v2, v3, v4⟩ := HT.out.facts HNV.out HKp.out HNp.out
  have HWI := Lib.hid (HCp.out _ _ HNp.out HpF.out d _ _ (HT.out.sx.keep (dr (Below.refl _ _) 1)) (by omega) (by have h9 := HL.out; first | omega | (simp; omega)))
  unfold ndW at HWI
  rw [HpF.out] at HWI v0
  go_wp2_with fail
  go_still_tail 11, (by kernel_rfl)
  change wpList _ _ _ _ _ w3.drew
  go_wp2_with fail
  refine Calls.mono HWI.out ?_
  rintro e w4 ⟨rfl, hn, hkn, hsn⟩
  have HT2 := Lib.hid (HT.out.step (hn.to (L' := L ++ [105, 102, 32] ++ prN T q d ++ [32] ++ prN T p d) rfl) hkn hsn)
  clear hn hkn hsn HT
  have HT := HT2
  clear HT2
  clear t2 b4 z0 v0 v1 v2 v3 v4 HWI
  have b4 := (box_cells HT.out.bk).2.2.2.2
  go_wp2_with fail
  clear b4
  refine Calls.mono (wStr ⟨#[32, 101, 108, 115, 101, 32]⟩ HT.out.sx (by have h9 := HL.out; show _ + 6 ≤ _; first | omega | (simp; omega))) ?_
  rintro e w5 ⟨rfl, hn, hkn, hsn⟩
  have HT2 := Lib.hid (HT.out.step0 (hn.to (L' := L ++ [105, 102, 32] ++ prN T q d ++ [32] ++ prN T p d ++ [32, 101, 108, 115, 101, 32]) rfl) hkn hsn)
  clear hn hkn hsn HT
  have HT := HT2
  clear HT2
  obtain ⟨⟨t2, b4, z0⟩, v0, v1, v2, v3, v4⟩ := HT.out.facts HNV.out HKs.out HNs.out
  have HWI := Lib.hid (HCs.out _ _ HNs.out HsF.out d _ _ (HT.out.sx.keep (dr (Below.refl _ _) 1)) (by omega) (by have h9 := HL.out; first | omega | (simp; omega)))
  unfold ndW at HWI
  go_wp2_with fail
  go_still_tail 11, (by kernel_rfl)
  change wpList _ _ _ _ _ w5.drew
  go_wp2_with fail
  refine Calls.mono HWI.out ?_
  rintro e w6 ⟨rfl, hn, hkn, hsn⟩
  have HT2 := Lib.hid (HT.out.step (hn.to (L' := L ++ [105, 102, 32] ++ prN T q d ++ [32] ++ prN T p d ++ [32, 101, 108, 115, 101, 32] ++ prN T s d) rfl) hkn hsn)
  clear hn hkn hsn HT
  have HT := HT2
  clear HT2
  clear t2 b4 z0 v0 v1 v2 v3 v4 HWI
  go_wp2_with fail
  go_end0
  exact ⟨rfl, HT.out.sx.to (by rw [HTX.out]; (try simp)), HT.out.kp, HT.out.le⟩
set_option maxHeartbeats 8000000 in
theorem st_11_1 (hev : Ev w0 (some ⟨b, off, none⟩) c T m) (hbl : ∀ q, q < k → BlC w0 g b off c T q) (hnv : NodeV w0 b off T k A4 c4) (e : (ndT T k).kind = 11) (hk1 : (ndT T k).kids.length = 1) (h : Sx w0 g (trV b off c T) (d : Int) L w) (hd : d + k ≤ 9000) (hl : L.length + (prN T k d).length ≤ 1099511627776) : StN w0 g b off c T k A4 c4 d L w := by
  have hkT := hnv.lt
  have hkn : (ndT T k).kids.length = 1 := by
    have hc := cnt_at hev.good hkT
    unfold cntN at hc
    rw [e] at hc
    simp at hc
    omega
  obtain ⟨q, hq, hq2, hqk, hqf⟩ := kid_at hev.good hkT (j := 0) (by omega)
  obtain ⟨Aq, cq, hnq⟩ := hev.node (show q < T.length by omega)
  have hqF : (ndT T q).kind = 5 := by
    unfold kidN at hqf
    rw [e] at hqf
    (try rw [hkn] at hqf)
    simp at hqf
    first | exact hqf | (rw [hqf]; rfl) | omega
  have HqF := Lib.hid hqF
  have HNq := Lib.hid hnq
  have HKq := Lib.hid hq
  have HqT : (q : Int) < (T.length : Int) := by omega
  have HCq := Lib.hid (hbl q hqk)
  obtain ⟨b5, o5, rfl, _, hb5, _⟩ := hnv.kid h.bel hq
  have HTX := Lib.hid (show prN T k d = [102, 111, 114, 32] ++ [] ++ prN T q d by
    rw [ ← prT_kid hqk, ← hq2]
    unfold prN prS
    simp [e, hkn])
  have HL := Lib.hid (show L.length + (4 + (prN T q d).length) ≤ 1099511627776 by
    rw [HTX.out] at hl
    (try simp at hl)
    (try rw [txb_len] at hl)
    omega)
  have HNV := Lib.hid hnv
  have hgw := h.lt
  obtain ⟨wb, hwb, hbx, hbl0, hbs⟩ := box_new w 11 (ndT T k).num (ndT T k).text (ndT T k).typ (.slice (some ⟨b5, o5, none⟩) 1 c4)
  have HT := Lib.hid (show Sto w0 g (trV b off c T) (d : Int) w #[.int .i64 11, .string (ndT T k).text, .string (ndT T k).typ, .int .i64 (ndT T k).num, .slice (some ⟨b5, o5, none⟩) 1 c4] L wb from ⟨h.keep hbl0, kptBel hbl0, hbx, by omega, by omega⟩)
  obtain ⟨b0, b1, b2, b3, b4⟩ := box_cells hbx
  unfold StN ndW
  rw [e, hkn]
  clear h hev hnv hl e hbx hbl0 hq hq2 hqf hqF hnq hkn hbl hk1
  go_enter Tryz.func46, Tryz.ntmps46
  go_wp2_with fail
  clear hwb b0 b1 b2 b3 b4
  refine Calls.mono (wStr ⟨#[102, 111, 114, 32]⟩ HT.out.sx (by have h9 := HL.out; show _ + 4 ≤ _; first | omega | (simp; omega))) ?_
  rintro e w1 ⟨rfl, hn, hkn, hsn⟩
  have HT2 := Lib.hid (HT.out.step0 (hn.to (L' := L ++ [102, 111, 114, 32]) rfl) hkn hsn)
  clear hn hkn hsn HT
  have HT := HT2
  clear HT2
  obtain ⟨⟨t2, b4, z0⟩, v0, v1, v2, v3, v4⟩ := HT.out.facts HNV.out HKq.out HNq.out
  rw [Nat.add_zero] at z0
  have HWI := Lib.hid (HCq.out _ _ HNq.out HqF.out d _ _ (HT.out.sx.keep (dr (Below.refl _ _) 1)) (by omega) (by have h9 := HL.out; first | omega | (simp; omega)))
  unfold ndW at HWI
  rw [HqF.out] at HWI v0
  have hw0 : IntKind.i64.wrap 0 = 0 := by kernel_rfl
  have hw1 : IntKind.i64.wrap 1 = 1 := by kernel_rfl
  go_wp2_with fail
  go_still_tail 15, (by kernel_rfl)
  change wpList _ _ _ _ _ w1.drew
  go_wp2_with fail
  refine Calls.mono HWI.out ?_
  rintro e w2 ⟨rfl, hn, hkn, hsn⟩
  have HT2 := Lib.hid (HT.out.step (hn.to (L' := L ++ [102, 111, 114, 32] ++ prN T q d) rfl) hkn hsn)
  clear hn hkn hsn HT
  have HT := HT2
  clear HT2
  clear t2 b4 z0 v0 v1 v2 v3 v4 HWI
  go_wp2_with fail
  go_end0
  exact ⟨rfl, HT.out.sx.to (by rw [HTX.out]; (try simp)), HT.out.kp, HT.out.le⟩
set_option maxHeartbeats 8000000 in
theorem st_11_2 (hev : Ev w0 (some ⟨b, off, none⟩) c T m) (hex : ∀ q, q < k → ExC w0 g b off c T q) (hbl : ∀ q, q < k → BlC w0 g b off c T q) (hnv : NodeV w0 b off T k A4 c4) (e : (ndT T k).kind = 11) (hk2 : (ndT T k).kids.length = 2) (h : Sx w0 g (trV b off c T) (d : Int) L w) (hd : d + k ≤ 9000) (hl : L.length + (prN T k d).length ≤ 1099511627776) : StN w0 g b off c T k A4 c4 d L w := by
  have hkT := hnv.lt
  have hkn : (ndT T k).kids.length = 2 := by
    have hc := cnt_at hev.good hkT
    unfold cntN at hc
    rw [e] at hc
    simp at hc
    omega
  obtain ⟨q, hq, hq2, hqk, hqf⟩ := kid_at hev.good hkT (j := 0) (by omega)
  obtain ⟨Aq, cq, hnq⟩ := hev.node (show q < T.length by omega)
  have hqF : isE (ndT T q).kind = true := by
    unfold kidN at hqf
    rw [e] at hqf
    (try rw [hkn] at hqf)
    simp at hqf
    first | exact hqf | (rw [hqf]; rfl) | omega
  have HqF := Lib.hid hqF
  have HNq := Lib.hid hnq
  have HKq := Lib.hid hq
  have HqT : (q : Int) < (T.length : Int) := by omega
  have HCq := Lib.hid (hex q hqk)
  obtain ⟨p, hp, hp2, hpk, hpf⟩ := kid_at hev.good hkT (j := 1) (by omega)
  obtain ⟨Ap, cp, hnp⟩ := hev.node (show p < T.length by omega)
  have hpF : (ndT T p).kind = 5 := by
    unfold kidN at hpf
    rw [e] at hpf
    (try rw [hkn] at hpf)
    simp at hpf
    first | exact hpf | (rw [hpf]; rfl) | omega
  have HpF := Lib.hid hpF
  have HNp := Lib.hid hnp
  have HKp := Lib.hid hp
  have HpT : (p : Int) < (T.length : Int) := by omega
  have HCp := Lib.hid (hbl p hpk)
  obtain ⟨b5, o5, rfl, _, hb5, _⟩ := hnv.kid h.bel hq
  have HTX := Lib.hid (show prN T k d = [102, 111, 114, 32] ++ (prN T q d ++ [32]) ++ prN T p d by
    rw [ ← prT_kid hqk, ← hq2, ← prT_kid hpk, ← hp2]
    unfold prN prS
    simp [e, hkn])
  have HL := Lib.hid (show L.length + (4 + (prN T q d).length + 1 + (prN T p d).length) ≤ 1099511627776 by
    rw [HTX.out] at hl
    (try simp at hl)
    (try rw [txb_len] at hl)
    omega)
  have HNV := Lib.hid hnv
  have hgw := h.lt
  obtain ⟨wb, hwb, hbx, hbl0, hbs⟩ := box_new w 11 (ndT T k).num (ndT T k).text (ndT T k).typ (.slice (some ⟨b5, o5, none⟩) 2 c4)
  have HT := Lib.hid (show Sto w0 g (trV b off c T) (d : Int) w #[.int .i64 11, .string (ndT T k).text, .string (ndT T k).typ, .int .i64 (ndT T k).num, .slice (some ⟨b5, o5, none⟩) 2 c4] L wb from ⟨h.keep hbl0, kptBel hbl0, hbx, by omega, by omega⟩)
  obtain ⟨b0, b1, b2, b3, b4⟩ := box_cells hbx
  unfold StN ndW
  rw [e, hkn]
  clear h hev hnv hl e hbx hbl0 hq hq2 hqf hqF hnq hp hp2 hpf hpF hnp hkn hex hbl hk2
  go_enter Tryz.func46, Tryz.ntmps46
  go_wp2_with fail
  clear hwb b0 b1 b2 b3 b4
  refine Calls.mono (wStr ⟨#[102, 111, 114, 32]⟩ HT.out.sx (by have h9 := HL.out; show _ + 4 ≤ _; first | omega | (simp; omega))) ?_
  rintro e w1 ⟨rfl, hn, hkn, hsn⟩
  have HT2 := Lib.hid (HT.out.step0 (hn.to (L' := L ++ [102, 111, 114, 32]) rfl) hkn hsn)
  clear hn hkn hsn HT
  have HT := HT2
  clear HT2
  obtain ⟨⟨t2, b4, z0⟩, v0, v1, v2, v3, v4⟩ := HT.out.facts HNV.out HKq.out HNq.out
  rw [Nat.add_zero] at z0
  have HWI := Lib.hid (HCq.out _ _ HNq.out HqF.out d _ _ (HT.out.sx.keep (dr (Below.refl _ _) 1)) (by omega) (by have h9 := HL.out; first | omega | (simp; omega)))
  unfold ndW at HWI
  go_wp2_with fail
  go_still_tail 11, (by kernel_rfl)
  change wpList _ _ _ _ _ w1.drew
  go_wp2_with fail
  refine Calls.mono HWI.out ?_
  rintro e w2 ⟨rfl, hn, hkn, hsn⟩
  have HT2 := Lib.hid (HT.out.step (hn.to (L' := L ++ [102, 111, 114, 32] ++ prN T q d) rfl) hkn hsn)
  clear hn hkn hsn HT
  have HT := HT2
  clear HT2
  clear t2 b4 z0 v0 v1 v2 v3 v4 HWI
  go_wp2_with fail
  refine Calls.mono (wByte 32 HT.out.sx (by have h9 := HL.out; first | omega | (simp; omega))) ?_
  rintro e w3 ⟨rfl, hn, hkn, hsn⟩
  have HT2 := Lib.hid (HT.out.step0 (hn.to (L' := L ++ [102, 111, 114, 32] ++ prN T q d ++ [32]) rfl) hkn hsn)
  clear hn hkn hsn HT
  have HT := HT2
  clear HT2
  obtain ⟨⟨t2, b4, z0⟩, v0, v1, v2, v3, v4⟩ := HT.out.facts HNV.out HKp.out HNp.out
  have HWI := Lib.hid (HCp.out _ _ HNp.out HpF.out d _ _ (HT.out.sx.keep (dr (Below.refl _ _) 1)) (by omega) (by have h9 := HL.out; first | omega | (simp; omega)))
  unfold ndW at HWI
  rw [HpF.out] at HWI v0
  have hw0 : IntKind.i64.wrap 0 = 0 := by kernel_rfl
  have hw1 : IntKind.i64.wrap 1 = 1 := by kernel_rfl
  go_wp2_with fail
  go_still_tail 15, (by kernel_rfl)
  change wpList _ _ _ _ _ w3.drew
  go_wp2_with fail
  refine Calls.mono HWI.out ?_
  rintro e w4 ⟨rfl, hn, hkn, hsn⟩
  have HT2 := Lib.hid (HT.out.step (hn.to (L' := L ++ [102, 111, 114, 32] ++ prN T q d ++ [32] ++ prN T p d) rfl) hkn hsn)
  clear hn hkn hsn HT
  have HT := HT2
  clear HT2
  clear t2 b4 z0 v0 v1 v2 v3 v4 HWI
  go_wp2_with fail
  go_end0
  exact ⟨rfl, HT.out.sx.to (by rw [HTX.out]; (try simp)), HT.out.kp, HT.out.le⟩
set_option maxHeartbeats 8000000 in
theorem st_7 (hev : Ev w0 (some ⟨b, off, none⟩) c T m) (hex : ∀ q, q < k → ExC w0 g b off c T q) (hnv : NodeV w0 b off T k A4 c4) (e : (ndT T k).kind = 7) (h : Sx w0 g (trV b off c T) (d : Int) L w) (hd : d + k ≤ 9000) (hl : L.length + (prN T k d).length ≤ 1099511627776) : StN w0 g b off c T k A4 c4 d L w := by
  have hkT := hnv.lt
  have hkn : (ndT T k).kids.length = 1 := by
    have hc := cnt_at hev.good hkT
    unfold cntN at hc
    rw [e] at hc
    simp at hc
    omega
  obtain ⟨q, hq, hq2, hqk, hqf⟩ := kid_at hev.good hkT (j := 0) (by omega)
  obtain ⟨Aq, cq, hnq⟩ := hev.node (show q < T.length by omega)
  have hqF : isE (ndT T q).kind = true := by
    unfold kidN at hqf
    rw [e] at hqf
    (try rw [hkn] at hqf)
    simp at hqf
    first | exact hqf | (rw [hqf]; rfl) | omega
  have HqF := Lib.hid hqF
  have HNq := Lib.hid hnq
  have HKq := Lib.hid hq
  have HqT : (q : Int) < (T.length : Int) := by omega
  have HCq := Lib.hid (hex q hqk)
  obtain ⟨b5, o5, rfl, _, hb5, _⟩ := hnv.kid h.bel hq
  have HTX := Lib.hid (show prN T k d = txB (ndT T k).text ++ [32, 58, 61, 32] ++ prN T q d by
    rw [ ← prT_kid hqk, ← hq2]
    unfold prN prS
    simp [e])
  have HL := Lib.hid (show L.length + ((ndT T k).text.size + 4 + (prN T q d).length) ≤ 1099511627776 by
    rw [HTX.out] at hl
    (try simp at hl)
    (try rw [txb_len] at hl)
    omega)
  have HNV := Lib.hid hnv
  have hgw := h.lt
  obtain ⟨wb, hwb, hbx, hbl0, hbs⟩ := box_new w 7 (ndT T k).num (ndT T k).text (ndT T k).typ (.slice (some ⟨b5, o5, none⟩) 1 c4)
  have HT := Lib.hid (show Sto w0 g (trV b off c T) (d : Int) w #[.int .i64 7, .string (ndT T k).text, .string (ndT T k).typ, .int .i64 (ndT T k).num, .slice (some ⟨b5, o5, none⟩) 1 c4] L wb from ⟨h.keep hbl0, kptBel hbl0, hbx, by omega, by omega⟩)
  obtain ⟨b0, b1, b2, b3, b4⟩ := box_cells hbx
  unfold StN ndW
  rw [e, hkn]
  have hkids : (ndT T k).kids = [(q : Int)] := by
    obtain ⟨z, hz⟩ := List.length_eq_one_iff.1 hkn
    rw [hz] at hq
    simp at hq
    rw [hz, hq]
  have hrow := hnv.row
  rw [hkids] at hrow
  have HKD := Lib.hid (fun (L : List UInt8) (W : World) (hW : Sx w0 g (trV b off c T) (d : Int) L W) (hll : L.length + ((ndT T k).text.size + 4) + (prN T q d).length ≤ 1099511627776) => kids_any hev [q] (fun z hz => by obtain rfl : z = q := (by simpa using hz); exact ⟨hnq.lt, hqF, hex z hqk⟩) ((ndT T k).text ++ ⟨#[32, 58, 61, 32]⟩) 7 (ndT T k).num (ndT T k).text (ndT T k).typ (some ⟨b5, o5, none⟩) c4 d (fun z hz => by obtain rfl : z = q := (by simpa using hz); omega) hrow (by simp) hW (by
    show L.length + ((ndT T k).text ++ ⟨#[32, 58, 61, 32]⟩ : ByteArray).size + (prN T q d).length ≤ _
    (try rw [ByteArray.size_append])
    exact hll))
  simp only [List.length_cons, List.length_nil, Nat.zero_add, List.map_cons, List.map_nil, comL] at HKD
  have hn1 : ¬ 9223372036854775807 < (ndT T k).text.size + 4 := by have := HL.out; omega
  clear h hev hnv hl e hbx hbl0 hq hq2 hqf hqF hnq hkn hex hkids hrow
  go_enter Tryz.func46, Tryz.ntmps46
  go_wp2_with fail
  clear hwb
  refine Calls.mono (HKD.out _ _ HT.out.sx (by have h9 := HL.out; first | omega | (simp; omega))) ?_
  rintro e w1 ⟨rfl, hn, hkn, hsn⟩
  have HT2 := Lib.hid (HT.out.step0 (hn.to (L' := L ++ txB ((ndT T k).text ++ ⟨#[32, 58, 61, 32]⟩) ++ prN T q d) rfl) hkn hsn)
  clear hn hkn hsn HT
  have HT := HT2
  clear HT2
  clear b0 b1 b2 b3 b4
  go_wp2_with fail
  go_end0
  exact ⟨rfl, HT.out.sx.to (by rw [HTX.out, show txB ((ndT T k).text ++ ⟨#[32, 58, 61, 32]⟩) = txB (ndT T k).text ++ [32, 58, 61, 32] by unfold txB; rw [ByteArray.data_append, Array.toList_append]]; (try simp)), HT.out.kp, HT.out.le⟩
set_option maxHeartbeats 8000000 in
theorem st_9 (hev : Ev w0 (some ⟨b, off, none⟩) c T m) (hex : ∀ q, q < k → ExC w0 g b off c T q) (hnv : NodeV w0 b off T k A4 c4) (e : (ndT T k).kind = 9) (h : Sx w0 g (trV b off c T) (d : Int) L w) (hd : d + k ≤ 9000) (hl : L.length + (prN T k d).length ≤ 1099511627776) : StN w0 g b off c T k A4 c4 d L w := by
  have hkT := hnv.lt
  have hkn : (ndT T k).kids.length = 1 := by
    have hc := cnt_at hev.good hkT
    unfold cntN at hc
    rw [e] at hc
    simp at hc
    omega
  obtain ⟨q, hq, hq2, hqk, hqf⟩ := kid_at hev.good hkT (j := 0) (by omega)
  obtain ⟨Aq, cq, hnq⟩ := hev.node (show q < T.length by omega)
  have hqF : isE (ndT T q).kind = true := by
    unfold kidN at hqf
    rw [e] at hqf
    (try rw [hkn] at hqf)
    simp at hqf
    first | exact hqf | (rw [hqf]; rfl) | omega
  have HqF := Lib.hid hqF
  have HNq := Lib.hid hnq
  have HKq := Lib.hid hq
  have HqT : (q : Int) < (T.length : Int) := by omega
  have HCq := Lib.hid (hex q hqk)
  obtain ⟨b5, o5, rfl, _, hb5, _⟩ := hnv.kid h.bel hq
  have HTX := Lib.hid (show prN T k d = prN T q d by
    rw [ ← prT_kid hqk, ← hq2]
    unfold prN prS
    simp [e])
  have HL := Lib.hid (show L.length + ((prN T q d).length) ≤ 1099511627776 by
    rw [HTX.out] at hl
    (try simp at hl)
    (try rw [txb_len] at hl)
    omega)
  have HNV := Lib.hid hnv
  have hgw := h.lt
  obtain ⟨wb, hwb, hbx, hbl0, hbs⟩ := box_new w 9 (ndT T k).num (ndT T k).text (ndT T k).typ (.slice (some ⟨b5, o5, none⟩) 1 c4)
  have HT := Lib.hid (show Sto w0 g (trV b off c T) (d : Int) w #[.int .i64 9, .string (ndT T k).text, .string (ndT T k).typ, .int .i64 (ndT T k).num, .slice (some ⟨b5, o5, none⟩) 1 c4] L wb from ⟨h.keep hbl0, kptBel hbl0, hbx, by omega, by omega⟩)
  obtain ⟨b0, b1, b2, b3, b4⟩ := box_cells hbx
  unfold StN ndW
  rw [e, hkn]
  have hkids : (ndT T k).kids = [(q : Int)] := by
    obtain ⟨z, hz⟩ := List.length_eq_one_iff.1 hkn
    rw [hz] at hq
    simp at hq
    rw [hz, hq]
  have hrow := hnv.row
  rw [hkids] at hrow
  have HKD := Lib.hid (fun (L : List UInt8) (W : World) (hW : Sx w0 g (trV b off c T) (d : Int) L W) (hll : L.length + (0) + (prN T q d).length ≤ 1099511627776) => kids_any hev [q] (fun z hz => by obtain rfl : z = q := (by simpa using hz); exact ⟨hnq.lt, hqF, hex z hqk⟩) (⟨#[]⟩) 9 (ndT T k).num (ndT T k).text (ndT T k).typ (some ⟨b5, o5, none⟩) c4 d (fun z hz => by obtain rfl : z = q := (by simpa using hz); omega) hrow (by simp) hW (by
    show L.length + (⟨#[]⟩ : ByteArray).size + (prN T q d).length ≤ _
    (try rw [ByteArray.size_append])
    exact hll))
  simp only [List.length_cons, List.length_nil, Nat.zero_add, List.map_cons, List.map_nil, comL] at HKD
  clear h hev hnv hl e hbx hbl0 hq hq2 hqf hqF hnq hkn hex hkids hrow
  go_enter Tryz.func46, Tryz.ntmps46
  go_wp2_with fail
  clear hwb
  refine Calls.mono (HKD.out _ _ HT.out.sx (by have h9 := HL.out; first | omega | (simp; omega))) ?_
  rintro e w1 ⟨rfl, hn, hkn, hsn⟩
  have HT2 := Lib.hid (HT.out.step0 (hn.to (L' := L ++ txB ⟨#[]⟩ ++ prN T q d) rfl) hkn hsn)
  clear hn hkn hsn HT
  have HT := HT2
  clear HT2
  clear b0 b1 b2 b3 b4
  go_wp2_with fail
  go_end0
  exact ⟨rfl, HT.out.sx.to (by rw [HTX.out, show txB (⟨#[]⟩ : ByteArray) = [] from rfl]; (try simp)), HT.out.kp, HT.out.le⟩
set_option maxHeartbeats 8000000 in
theorem st_14 (hev : Ev w0 (some ⟨b, off, none⟩) c T m) (hex : ∀ q, q < k → ExC w0 g b off c T q) (hnv : NodeV w0 b off T k A4 c4) (e : (ndT T k).kind = 14) (hk1 : (ndT T k).kids.length = 1) (h : Sx w0 g (trV b off c T) (d : Int) L w) (hd : d + k ≤ 9000) (hl : L.length + (prN T k d).length ≤ 1099511627776) : StN w0 g b off c T k A4 c4 d L w := by
  have hkT := hnv.lt
  have hkn : (ndT T k).kids.length = 1 := by
    have hc := cnt_at hev.good hkT
    unfold cntN at hc
    rw [e] at hc
    simp at hc
    omega
  obtain ⟨q, hq, hq2, hqk, hqf⟩ := kid_at hev.good hkT (j := 0) (by omega)
  obtain ⟨Aq, cq, hnq⟩ := hev.node (show q < T.length by omega)
  have hqF : isE (ndT T q).kind = true := by
    unfold kidN at hqf
    rw [e] at hqf
    (try rw [hkn] at hqf)
    simp at hqf
    first | exact hqf | (rw [hqf]; rfl) | omega
  have HqF := Lib.hid hqF
  have HNq := Lib.hid hnq
  have HKq := Lib.hid hq
  have HqT : (q : Int) < (T.length : Int) := by omega
  have HCq := Lib.hid (hex q hqk)
  obtain ⟨b5, o5, rfl, _, hb5, _⟩ := hnv.kid h.bel hq
  have HTX := Lib.hid (show prN T k d = [114, 101, 116, 117, 114, 110] ++ ([32] ++ prN T q d) by
    rw [ ← prT_kid hqk, ← hq2]
    unfold prN prS
    simp [e, hkn])
  have HL := Lib.hid (show L.length + (6 + 1 + (prN T q d).length) ≤ 1099511627776 by
    rw [HTX.out] at hl
    (try simp at hl)
    (try rw [txb_len] at hl)
    omega)
  have HNV := Lib.hid hnv
  have hgw := h.lt
  obtain ⟨wb, hwb, hbx, hbl0, hbs⟩ := box_new w 14 (ndT T k).num (ndT T k).text (ndT T k).typ (.slice (some ⟨b5, o5, none⟩) 1 c4)
  have HT := Lib.hid (show Sto w0 g (trV b off c T) (d : Int) w #[.int .i64 14, .string (ndT T k).text, .string (ndT T k).typ, .int .i64 (ndT T k).num, .slice (some ⟨b5, o5, none⟩) 1 c4] L wb from ⟨h.keep hbl0, kptBel hbl0, hbx, by omega, by omega⟩)
  obtain ⟨b0, b1, b2, b3, b4⟩ := box_cells hbx
  unfold StN ndW
  rw [e, hkn]
  have hkids : (ndT T k).kids = [(q : Int)] := by
    obtain ⟨z, hz⟩ := List.length_eq_one_iff.1 hkn
    rw [hz] at hq
    simp at hq
    rw [hz, hq]
  have hrow := hnv.row
  rw [hkids] at hrow
  have HKD := Lib.hid (fun (L : List UInt8) (W : World) (hW : Sx w0 g (trV b off c T) (d : Int) L W) (hll : L.length + (1) + (prN T q d).length ≤ 1099511627776) => kids_any hev [q] (fun z hz => by obtain rfl : z = q := (by simpa using hz); exact ⟨hnq.lt, hqF, hex z hqk⟩) (⟨#[32]⟩) 14 (ndT T k).num (ndT T k).text (ndT T k).typ (some ⟨b5, o5, none⟩) c4 d (fun z hz => by obtain rfl : z = q := (by simpa using hz); omega) hrow (by simp) hW (by
    show L.length + (⟨#[32]⟩ : ByteArray).size + (prN T q d).length ≤ _
    (try rw [ByteArray.size_append])
    exact hll))
  simp only [List.length_cons, List.length_nil, Nat.zero_add, List.map_cons, List.map_nil, comL] at HKD
  clear h hev hnv hl e hbx hbl0 hq hq2 hqf hqF hnq hkn hex hkids hrow hk1
  go_enter Tryz.func46, Tryz.ntmps46
  go_wp2_with fail
  clear hwb b0 b1 b2 b3 b4
  refine Calls.mono (wStr ⟨#[114, 101, 116, 117, 114, 110]⟩ HT.out.sx (by have h9 := HL.out; show _ + 6 ≤ _; first | omega | (simp; omega))) ?_
  rintro e w1 ⟨rfl, hn, hkn, hsn⟩
  have HT2 := Lib.hid (HT.out.step0 (hn.to (L' := L ++ [114, 101, 116, 117, 114, 110]) rfl) hkn hsn)
  clear hn hkn hsn HT
  have HT := HT2
  clear HT2
  obtain ⟨b0, b1, b2, b3, b4⟩ := box_cells HT.out.bk
  go_wp2_with fail
  refine Calls.mono (HKD.out _ _ HT.out.sx (by have h9 := HL.out; first | omega | (simp; omega))) ?_
  rintro e w2 ⟨rfl, hn, hkn, hsn⟩
  have HT2 := Lib.hid (HT.out.step0 (hn.to (L' := L ++ [114, 101, 116, 117, 114, 110] ++ txB ⟨#[32]⟩ ++ prN T q d) rfl) hkn hsn)
  clear hn hkn hsn HT
  have HT := HT2
  clear HT2
  clear b0 b1 b2 b3 b4
  go_wp2_with fail
  go_end0
  exact ⟨rfl, HT.out.sx.to (by rw [HTX.out, show txB (⟨#[32]⟩ : ByteArray) = [32] from rfl]; (try simp)), HT.out.kp, HT.out.le⟩
set_option maxHeartbeats 8000000 in
theorem st_15 (hev : Ev w0 (some ⟨b, off, none⟩) c T m) (hex : ∀ q, q < k → ExC w0 g b off c T q) (hnv : NodeV w0 b off T k A4 c4) (e : (ndT T k).kind = 15) (h : Sx w0 g (trV b off c T) (d : Int) L w) (hd : d + k ≤ 9000) (hl : L.length + (prN T k d).length ≤ 1099511627776) : StN w0 g b off c T k A4 c4 d L w := by
  have hkT := hnv.lt
  have hkn : (ndT T k).kids.length = 1 := by
    have hc := cnt_at hev.good hkT
    unfold cntN at hc
    rw [e] at hc
    simp at hc
    omega
  obtain ⟨q, hq, hq2, hqk, hqf⟩ := kid_at hev.good hkT (j := 0) (by omega)
  obtain ⟨Aq, cq, hnq⟩ := hev.node (show q < T.length by omega)
  have hqF : isE (ndT T q).kind = true := by
    unfold kidN at hqf
    rw [e] at hqf
    (try rw [hkn] at hqf)
    simp at hqf
    first | exact hqf | (rw [hqf]; rfl) | omega
  have HqF := Lib.hid hqF
  have HNq := Lib.hid hnq
  have HKq := Lib.hid hq
  have HqT : (q : Int) < (T.length : Int) := by omega
  have HCq := Lib.hid (hex q hqk)
  obtain ⟨b5, o5, rfl, _, hb5, _⟩ := hnv.kid h.bel hq
  have HTX := Lib.hid (show prN T k d = [100, 101, 102, 101, 114, 32] ++ prN T q d by
    rw [ ← prT_kid hqk, ← hq2]
    unfold prN prS
    simp [e])
  have HL := Lib.hid (show L.length + (6 + (prN T q d).length) ≤ 1099511627776 by
    rw [HTX.out] at hl
    (try simp at hl)
    (try rw [txb_len] at hl)
    omega)
  have HNV := Lib.hid hnv
  have hgw := h.lt
  obtain ⟨wb, hwb, hbx, hbl0, hbs⟩ := box_new w 15 (ndT T k).num (ndT T k).text (ndT T k).typ (.slice (some ⟨b5, o5, none⟩) 1 c4)
  have HT := Lib.hid (show Sto w0 g (trV b off c T) (d : Int) w #[.int .i64 15, .string (ndT T k).text, .string (ndT T k).typ, .int .i64 (ndT T k).num, .slice (some ⟨b5, o5, none⟩) 1 c4] L wb from ⟨h.keep hbl0, kptBel hbl0, hbx, by omega, by omega⟩)
  obtain ⟨b0, b1, b2, b3, b4⟩ := box_cells hbx
  unfold StN ndW
  rw [e, hkn]
  have hkids : (ndT T k).kids = [(q : Int)] := by
    obtain ⟨z, hz⟩ := List.length_eq_one_iff.1 hkn
    rw [hz] at hq
    simp at hq
    rw [hz, hq]
  have hrow := hnv.row
  rw [hkids] at hrow
  have HKD := Lib.hid (fun (L : List UInt8) (W : World) (hW : Sx w0 g (trV b off c T) (d : Int) L W) (hll : L.length + (6) + (prN T q d).length ≤ 1099511627776) => kids_any hev [q] (fun z hz => by obtain rfl : z = q := (by simpa using hz); exact ⟨hnq.lt, hqF, hex z hqk⟩) (⟨#[100, 101, 102, 101, 114, 32]⟩) 15 (ndT T k).num (ndT T k).text (ndT T k).typ (some ⟨b5, o5, none⟩) c4 d (fun z hz => by obtain rfl : z = q := (by simpa using hz); omega) hrow (by simp) hW (by
    show L.length + (⟨#[100, 101, 102, 101, 114, 32]⟩ : ByteArray).size + (prN T q d).length ≤ _
    (try rw [ByteArray.size_append])
    exact hll))
  simp only [List.length_cons, List.length_nil, Nat.zero_add, List.map_cons, List.map_nil, comL] at HKD
  clear h hev hnv hl e hbx hbl0 hq hq2 hqf hqF hnq hkn hex hkids hrow
  go_enter Tryz.func46, Tryz.ntmps46
  go_wp2_with fail
  clear hwb
  refine Calls.mono (HKD.out _ _ HT.out.sx (by have h9 := HL.out; first | omega | (simp; omega))) ?_
  rintro e w1 ⟨rfl, hn, hkn, hsn⟩
  have HT2 := Lib.hid (HT.out.step0 (hn.to (L' := L ++ txB ⟨#[100, 101, 102, 101, 114, 32]⟩ ++ prN T q d) rfl) hkn hsn)
  clear hn hkn hsn HT
  have HT := HT2
  clear HT2
  clear b0 b1 b2 b3 b4
  go_wp2_with fail
  go_end0
  exact ⟨rfl, HT.out.sx.to (by rw [HTX.out, show txB (⟨#[100, 101, 102, 101, 114, 32]⟩ : ByteArray) = [100, 101, 102, 101, 114, 32] from rfl]; (try simp)), HT.out.kp, HT.out.le⟩
set_option maxHeartbeats 8000000 in
theorem st_14_0  (hnv : NodeV w0 b off T k A4 c4) (e : (ndT T k).kind = 14) (hk0 : (ndT T k).kids.length = 0) (h : Sx w0 g (trV b off c T) (d : Int) L w) (hl : L.length + (prN T k d).length ≤ 1099511627776) : StN w0 g b off c T k A4 c4 d L w := by
  have hkT := hnv.lt
  have HTX := Lib.hid (show prN T k d = [114, 101, 116, 117, 114, 110] ++ [] by
    unfold prN prS
    simp [e, hk0])
  have HL := Lib.hid (show L.length + (6) ≤ 1099511627776 by
    rw [HTX.out] at hl
    (try simp at hl)
    (try rw [txb_len] at hl)
    omega)
  have HNV := Lib.hid hnv
  have hgw := h.lt
  obtain ⟨wb, hwb, hbx, hbl0, hbs⟩ := box_new w 14 (ndT T k).num (ndT T k).text (ndT T k).typ (.slice A4 0 c4)
  have HT := Lib.hid (show Sto w0 g (trV b off c T) (d : Int) w #[.int .i64 14, .string (ndT T k).text, .string (ndT T k).typ, .int .i64 (ndT T k).num, .slice A4 0 c4] L wb from ⟨h.keep hbl0, kptBel hbl0, hbx, by omega, by omega⟩)
  obtain ⟨b0, b1, b2, b3, b4⟩ := box_cells hbx
  unfold StN ndW
  rw [e, hk0]
  clear h hnv hl e hbx hbl0 hk0
  go_enter Tryz.func46, Tryz.ntmps46
  go_wp2_with fail
  clear hwb b0 b1 b2 b3 b4
  refine Calls.mono (wStr ⟨#[114, 101, 116, 117, 114, 110]⟩ HT.out.sx (by have h9 := HL.out; show _ + 6 ≤ _; first | omega | (simp; omega))) ?_
  rintro e w1 ⟨rfl, hn, hkn, hsn⟩
  have HT2 := Lib.hid (HT.out.step0 (hn.to (L' := L ++ [114, 101, 116, 117, 114, 110]) rfl) hkn hsn)
  clear hn hkn hsn HT
  have HT := HT2
  clear HT2
  have b4 := (box_cells HT.out.bk).2.2.2.2
  go_wp2_with fail
  go_end0
  exact ⟨rfl, HT.out.sx.to (by rw [HTX.out]; (try simp)), HT.out.kp, HT.out.le⟩
end
end Go.Proofs.YtkpejdkffkhekaaGreatDoor
