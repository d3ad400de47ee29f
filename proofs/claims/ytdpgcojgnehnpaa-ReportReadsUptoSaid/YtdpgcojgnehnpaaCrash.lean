/- 'report.Crash' and the document's Crash: what they answer. Conditions: the bulk. -/
import Derived.Test.YtdpgcojgnehnpaaFlightsA
import Derived.Test.YtdpgcojgnehnpaaBuild
import Derived.Test.YtdpgcojgnehnpaaPTx
set_option maxRecDepth 20000
namespace Go.Proofs.Ytdpgcojgnehnpaa
open Go.ChangeShapes Go.WideShapes Go.ChangeAt Go.RowKit
/-- The builder, and the round's own panic. -/
def CrI (w0 : World) (g : Nat) (cs : Array Value) (l : List UInt8) (wx : World) : Prop :=
  Bld w0.heap.size w0.heap.size (Lib.byteCells l) wx ∧ wx.heap[g]? = some (.cells cs 132 (0, 0)) ∧ Below w0.heap.size w0 wx ∧ w0.heap.size < g
theorem Bld.below {B b : Nat} {bs : List Value} {w w' : World} (h : Bld B b bs w) (hb : Below w.heap.size w w') : Bld B b bs w' := by
  have key : ∀ p, Lib.BuilderAt 164 5 B b p bs w → Lib.BuilderAt 164 5 B b p bs w' := by
    rintro p ⟨h1, v, h2, h3, h4⟩
    exact ⟨h1, v, (hb.block b (Array.getElem?_eq_some_iff.1 h2).1).trans h2, own_kept h3 hb, h4⟩
  exact h.imp (key _) (key _)
section
variable {w0 wx w' : World} {g : Nat} {cs : Array Value} {l : List UInt8}
theorem CrI.below (h : CrI w0 g cs l wx) (hb : Below wx.heap.size wx w') : CrI w0 g cs l w' :=
  ⟨h.1.below hb, (hb.block g (Array.getElem?_eq_some_iff.1 h.2.1).1).trans h.2.1, below_more h.2.2.1 hb, h.2.2.2⟩
theorem CrI.put (h : CrI w0 g cs l wx) {m : List UInt8} {bs : List Value} (hB : Bld w0.heap.size w0.heap.size bs w') (hbs : bs = Lib.byteCells (l ++ m)) (hb : Below w0.heap.size wx w') (hk : Kpt w0.heap.size wx w') : CrI w0 g cs (l ++ m) w' :=
  ⟨hbs ▸ hB, hk g _ h.2.1 (by intro e; injection e with e; have := h.2.2.2; omega) (by intro c fz e; injection e with _ e; exact absurd e (by decide)), h.2.2.1.trans hb, h.2.2.2⟩
theorem CrI.cell (h : CrI w0 g cs l wx) (j : Nat) : wx.cell? ⟨g, j, none⟩ = cs[j]? := Lib.cell_of_heap h.2.1 j
theorem CrI.size (h : CrI w0 g cs l wx) : w0.heap.size ≤ wx.heap.size := h.2.2.1.size
end
theorem str_cells (s : ByteArray) : Lib.strCells s = Lib.byteCells s.data.toList := rfl
theorem cells_app (l m : List UInt8) : Lib.byteCells l ++ Lib.byteCells m = Lib.byteCells (l ++ m) := by simp [Lib.byteCells]
theorem pan_list (t : ByteArray) : ((⟨#[112, 97, 110, 105, 99, 58, 32]⟩ : ByteArray) ++ t).data.toList = [112, 97, 110, 105, 99, 58, 32] ++ t.data.toList := by simp
theorem cells_10 (l : List UInt8) : Lib.byteCells l ++ [.int .u8 10] = Lib.byteCells (l ++ [10]) := by rw [← cells_app]; rfl
theorem cells_9 (l : List UInt8) : Lib.byteCells l ++ [.int .u8 9] = Lib.byteCells (l ++ [9]) := by rw [← cells_app]; rfl
theorem cells_len (l : List UInt8) : (Lib.byteCells l).length = l.length := by simp [Lib.byteCells]
set_option maxHeartbeats 4000000 in
theorem reportCrash_any (A : Option Addr) (n c : Nat) (l : List PP) (w : World) (h : (Shp.slice PP.sh).rd w (· < w.heap.size) [.slice A n c] l) (hb : (l.map PP.bulk).sum ≤ 1048576) :
    Calls Try.prog 80 #[.slice A n c] w fun e w' => e = .returned (.string ⟨(crashB 0 l).toArray⟩) ∧ Below w.heap.size w w' := by
  have HRg := Lib.hid (pp_range h)
  have hll := len_le_sum l
  obtain ⟨_, _, ess, he, hlc, hcm, hA, hr, hall⟩ := h
  simp at he
  obtain ⟨rfl, rfl, rfl⟩ := he
  have HB := Lib.hid (fun p (hp : p ∈ l) => Nat.le_trans (bulk_le hp) hb)
  have HSum := Lib.hid hb
  have hl2 : l.length ≤ 1048576 := by omega
  clear hb hll
  go_enter Try.func80, Try.ntmps80
  go_wp2_with fail
  go_loopw [8] (fun i wr => ∃ k : Nat, k ≤ l.length ∧ i = .int .i64 k ∧ Bld w.heap.size w.heap.size (Lib.byteCells (crashB 0 (l.take k))) wr ∧ Below w.heap.size w wr ∧ w.heap.size < wr.heap.size) (fun i _ => l.length - (intOf i).toNat)
  case atStart =>
    refine ⟨0, Nat.zero_le _, rfl, Lib.fresh_isBuilder _ _ w, al _, by simp⟩
  case round =>
    obtain ⟨k, hk, rfl, hbld, hbel, hsz⟩ := hrel
    have hcl := crash_len (l.take k) 0 (fun p hp => HRg.out p (List.mem_of_mem_take hp))
    have hst := sum_take_le l k
    have hcl2 : (crashB 0 (l.take k)).length ≤ 45088768 := by have := HSum.out; omega
    clear hcl hst
    by_cases hlt : k < l.length
    · obtain ⟨b, off, cs, x, rfl, hb, hx, hrd, hcell⟩ := Shp.elem hr hall hlt rfl
      obtain ⟨A2, c2, rfl, hser, hv⟩ := PP.elim hrd
      have e0 := hcell 0 _ rfl
      have e1 := hcell 1 _ rfl
      have e2 := hcell 2 _ rfl
      have e3 := hcell 3 _ rfl
      have e4 := hcell 4 _ rfl
      have e5 := hcell 5 _ rfl
      have e6 := hcell 6 _ rfl
      rw [← hbel.cell (p := ⟨b, _, none⟩) hb] at e0 e1 e2 e3 e4 e5 e6
      have hsz7 : PP.sh.size = 7 := rfl
      rw [hsz7] at e0 e1 e2 e3 e4 e5 e6
      simp only [Nat.add_zero] at e0
      have HX := Lib.hid hx
      have HBx := Lib.hid (HB.out x (List.mem_of_getElem? HX.out))
      have HNn := Lib.hid (HRg.out x (List.mem_of_getElem? HX.out))
      have hts := textS_len x.v HNn.out
      have hts2 : (textS x.v).size ≤ 23068672 := by have := HBx.out; omega
      have hts3 : (textS x.v).data.size ≤ 23068672 := hts2
      have hps : ((⟨#[112, 97, 110, 105, 99, 58, 32]⟩ : ByteArray) ++ textS x.v).size = 7 + (textS x.v).size := by simp; rfl
      clear hsz7 hcell hx hser hrd hv hts hA hr hall
      cases hrc : x.rcv
      · rw [hrc] at e5
        by_cases h0 : k = 0
        · have HC0 : CrI w wr.heap.size #[.int .i64 x.ser, .int .i64 x.v.k, .int .i64 x.v.n, .string x.v.s, .slice A2 x.v.l.length c2, .bool false, .bool x.ab] (crashB 0 (l.take k)) (wr.alloc (.cells #[.int .i64 x.ser, .int .i64 x.v.k, .int .i64 x.v.n, .string x.v.s, .slice A2 x.v.l.length c2, .bool false, .bool x.ab] 132)) := ⟨hbld.below (al _), heap_alloc_new _ _, below_more hbel (al _), hsz⟩
          generalize hG : wr.alloc (.cells #[.int .i64 x.ser, .int .i64 x.v.k, .int .i64 x.v.n, .string x.v.s, .slice A2 x.v.l.length c2, .bool false, .bool x.ab] 132) = W at HC0
          have HG := Lib.hid hG
          clear hG hbld
          have h0p : ¬ 0 < k := by omega
          have H0 := Lib.hid h0
          clear h0
          go_wp2_with fail
          rw [HG.out]
          have HC1 := HC0.put (m := []) HC0.1 (by rw [List.append_nil]) (Below.refl _ _) (Lib.OthersKept.refl _ _ _)
          clear HC0
          have d1 := HC1.cell 1
          have d2 := HC1.cell 2
          have d3 := HC1.cell 3
          have d4 := HC1.cell 4
          simp at d1 d2 d3 d4
          clear HG
          go_wp2_with fail
          refine (reportText_any x.v A2 c2 _ HNn.out HBx.out).mono ?_
          rintro e w2 ⟨rfl, hb2⟩
          have HC2 := HC1.below hb2
          clear HC1 hb2 d1 d2 d3 d4
          have hsz2 := HC2.size
          go_wp2_with fail
          refine (writeString_any _ _ _ _ _ HC2.1 (by rw [cells_len, List.length_append, hps]; simp only [List.length_nil]; omega) HC2.size).mono ?_
          rintro e w3 ⟨rfl, hB3, hb3, hk3, _⟩
          have HC3 := HC2.put (m := [112, 97, 110, 105, 99, 58, 32] ++ (textS x.v).data.toList) hB3 (by rw [str_cells, cells_app, pan_list]) hb3 hk3
          clear HC2 hB3 hb3 hk3 hsz2
          have d5 := HC3.cell 5
          simp at d5
          go_wp2_with fail
          refine (writeByte_any _ _ _ _ _ HC3.1 (by rw [cells_len]; simp only [List.length_append, List.length_cons, List.length_nil, Array.length_toList]; have := hts3; omega) HC3.size).mono ?_
          rintro e w5 ⟨rfl, hB5, hb5, hk5, hs5⟩
          have HC5 := HC3.put (m := [10]) hB5 (cells_10 _) hb5 hk5
          have hszw := HC3.2.2.1.size
          go_wp2_with fail
          refine ⟨⟨k + 1, by omega, by go_num, ?_, HC5.2.2.1, ?_⟩, by simp [intOf]; omega⟩
          · rw [crashB_take HX.out]
            have e := HC5.1
            simpa [lineB, hrc, H0.out, List.append_assoc] using e
          · have := (Array.getElem?_eq_some_iff.1 HC5.2.1).1; omega
        · have h0q : 0 < k := by omega
          have HC0 : CrI w wr.heap.size #[.int .i64 x.ser, .int .i64 x.v.k, .int .i64 x.v.n, .string x.v.s, .slice A2 x.v.l.length c2, .bool false, .bool x.ab] (crashB 0 (l.take k)) (wr.alloc (.cells #[.int .i64 x.ser, .int .i64 x.v.k, .int .i64 x.v.n, .string x.v.s, .slice A2 x.v.l.length c2, .bool false, .bool x.ab] 132)) := ⟨hbld.below (al _), heap_alloc_new _ _, below_more hbel (al _), hsz⟩
          generalize hG : wr.alloc (.cells #[.int .i64 x.ser, .int .i64 x.v.k, .int .i64 x.v.n, .string x.v.s, .slice A2 x.v.l.length c2, .bool false, .bool x.ab] 132) = W at HC0
          have HG := Lib.hid hG
          clear hG hbld
          go_wp2_with fail
          rw [HG.out]
          refine (writeByte_any _ _ _ _ _ HC0.1 (by rw [cells_len]; omega) HC0.size).mono ?_
          rintro e w1 ⟨rfl, hB1, hb1, hk1, _⟩
          have HC1 := HC0.put (m := [9]) hB1 (cells_9 _) hb1 hk1
          clear HC0 hB1 hb1 hk1
          have d1 := HC1.cell 1
          have d2 := HC1.cell 2
          have d3 := HC1.cell 3
          have d4 := HC1.cell 4
          simp at d1 d2 d3 d4
          clear HG
          go_wp2_with fail
          refine (reportText_any x.v A2 c2 _ HNn.out HBx.out).mono ?_
          rintro e w2 ⟨rfl, hb2⟩
          have HC2 := HC1.below hb2
          clear HC1 hb2 d1 d2 d3 d4
          have hsz2 := HC2.size
          go_wp2_with fail
          refine (writeString_any _ _ _ _ _ HC2.1 (by rw [cells_len, List.length_append, hps]; simp only [List.length_cons, List.length_nil]; omega) HC2.size).mono ?_
          rintro e w3 ⟨rfl, hB3, hb3, hk3, _⟩
          have HC3 := HC2.put (m := [112, 97, 110, 105, 99, 58, 32] ++ (textS x.v).data.toList) hB3 (by rw [str_cells, cells_app, pan_list]) hb3 hk3
          clear HC2 hB3 hb3 hk3 hsz2
          have d5 := HC3.cell 5
          simp at d5
          go_wp2_with fail
          refine (writeByte_any _ _ _ _ _ HC3.1 (by rw [cells_len]; simp only [List.length_append, List.length_cons, List.length_nil, Array.length_toList]; have := hts3; omega) HC3.size).mono ?_
          rintro e w5 ⟨rfl, hB5, hb5, hk5, hs5⟩
          have HC5 := HC3.put (m := [10]) hB5 (cells_10 _) hb5 hk5
          have hszw := HC3.2.2.1.size
          go_wp2_with fail
          refine ⟨⟨k + 1, by omega, by go_num, ?_, HC5.2.2.1, ?_⟩, by simp [intOf]; omega⟩
          · rw [crashB_take HX.out]
            have e := HC5.1
            simpa [lineB, hrc, h0q, List.append_assoc] using e
          · have := (Array.getElem?_eq_some_iff.1 HC5.2.1).1; omega
      · rw [hrc] at e5
        by_cases h0 : k = 0
        · have HC0 : CrI w wr.heap.size #[.int .i64 x.ser, .int .i64 x.v.k, .int .i64 x.v.n, .string x.v.s, .slice A2 x.v.l.length c2, .bool true, .bool x.ab] (crashB 0 (l.take k)) (wr.alloc (.cells #[.int .i64 x.ser, .int .i64 x.v.k, .int .i64 x.v.n, .string x.v.s, .slice A2 x.v.l.length c2, .bool true, .bool x.ab] 132)) := ⟨hbld.below (al _), heap_alloc_new _ _, below_more hbel (al _), hsz⟩
          generalize hG : wr.alloc (.cells #[.int .i64 x.ser, .int .i64 x.v.k, .int .i64 x.v.n, .string x.v.s, .slice A2 x.v.l.length c2, .bool true, .bool x.ab] 132) = W at HC0
          have HG := Lib.hid hG
          clear hG hbld
          have h0p : ¬ 0 < k := by omega
          have H0 := Lib.hid h0
          clear h0
          go_wp2_with fail
          rw [HG.out]
          have HC1 := HC0.put (m := []) HC0.1 (by rw [List.append_nil]) (Below.refl _ _) (Lib.OthersKept.refl _ _ _)
          clear HC0
          have d1 := HC1.cell 1
          have d2 := HC1.cell 2
          have d3 := HC1.cell 3
          have d4 := HC1.cell 4
          simp at d1 d2 d3 d4
          clear HG
          go_wp2_with fail
          refine (reportText_any x.v A2 c2 _ HNn.out HBx.out).mono ?_
          rintro e w2 ⟨rfl, hb2⟩
          have HC2 := HC1.below hb2
          clear HC1 hb2 d1 d2 d3 d4
          have hsz2 := HC2.size
          go_wp2_with fail
          refine (writeString_any _ _ _ _ _ HC2.1 (by rw [cells_len, List.length_append, hps]; simp only [List.length_nil]; omega) HC2.size).mono ?_
          rintro e w3 ⟨rfl, hB3, hb3, hk3, _⟩
          have HC3 := HC2.put (m := [112, 97, 110, 105, 99, 58, 32] ++ (textS x.v).data.toList) hB3 (by rw [str_cells, cells_app, pan_list]) hb3 hk3
          clear HC2 hB3 hb3 hk3 hsz2
          have d5 := HC3.cell 5
          simp at d5
          go_wp2_with fail
          refine (writeString_any _ _ _ _ _ HC3.1 (by rw [cells_len]; simp only [List.length_append, List.length_cons, List.length_nil, Array.length_toList]; show _ + 12 ≤ _; have := hts3; omega) HC3.size).mono ?_
          rintro e w4 ⟨rfl, hB4, hb4, hk4, _⟩
          have HC4 := HC3.put (m := [32, 91, 114, 101, 99, 111, 118, 101, 114, 101, 100, 93]) hB4 (by rw [str_cells, cells_app]) hb4 hk4
          clear HC3 hB4 hb4 hk4 d5
          go_wp2_with fail
          refine (writeByte_any _ _ _ _ _ HC4.1 (by rw [cells_len]; simp only [List.length_append, List.length_cons, List.length_nil, Array.length_toList]; have := hts3; omega) HC4.size).mono ?_
          rintro e w5 ⟨rfl, hB5, hb5, hk5, hs5⟩
          have HC5 := HC4.put (m := [10]) hB5 (cells_10 _) hb5 hk5
          have hszw := HC4.2.2.1.size
          go_wp2_with fail
          refine ⟨⟨k + 1, by omega, by go_num, ?_, HC5.2.2.1, ?_⟩, by simp [intOf]; omega⟩
          · rw [crashB_take HX.out]
            have e := HC5.1
            simpa [lineB, hrc, H0.out, List.append_assoc] using e
          · have := (Array.getElem?_eq_some_iff.1 HC5.2.1).1; omega
        · have h0q : 0 < k := by omega
          have HC0 : CrI w wr.heap.size #[.int .i64 x.ser, .int .i64 x.v.k, .int .i64 x.v.n, .string x.v.s, .slice A2 x.v.l.length c2, .bool true, .bool x.ab] (crashB 0 (l.take k)) (wr.alloc (.cells #[.int .i64 x.ser, .int .i64 x.v.k, .int .i64 x.v.n, .string x.v.s, .slice A2 x.v.l.length c2, .bool true, .bool x.ab] 132)) := ⟨hbld.below (al _), heap_alloc_new _ _, below_more hbel (al _), hsz⟩
          generalize hG : wr.alloc (.cells #[.int .i64 x.ser, .int .i64 x.v.k, .int .i64 x.v.n, .string x.v.s, .slice A2 x.v.l.length c2, .bool true, .bool x.ab] 132) = W at HC0
          have HG := Lib.hid hG
          clear hG hbld
          go_wp2_with fail
          rw [HG.out]
          refine (writeByte_any _ _ _ _ _ HC0.1 (by rw [cells_len]; omega) HC0.size).mono ?_
          rintro e w1 ⟨rfl, hB1, hb1, hk1, _⟩
          have HC1 := HC0.put (m := [9]) hB1 (cells_9 _) hb1 hk1
          clear HC0 hB1 hb1 hk1
          have d1 := HC1.cell 1
          have d2 := HC1.cell 2
          have d3 := HC1.cell 3
          have d4 := HC1.cell 4
          simp at d1 d2 d3 d4
          clear HG
          go_wp2_with fail
          refine (reportText_any x.v A2 c2 _ HNn.out HBx.out).mono ?_
          rintro e w2 ⟨rfl, hb2⟩
          have HC2 := HC1.below hb2
          clear HC1 hb2 d1 d2 d3 d4
          have hsz2 := HC2.size
          go_wp2_with fail
          refine (writeString_any _ _ _ _ _ HC2.1 (by rw [cells_len, List.length_append, hps]; simp only [List.length_cons, List.length_nil]; omega) HC2.size).mono ?_
          rintro e w3 ⟨rfl, hB3, hb3, hk3, _⟩
          have HC3 := HC2.put (m := [112, 97, 110, 105, 99, 58, 32] ++ (textS x.v).data.toList) hB3 (by rw [str_cells, cells_app, pan_list]) hb3 hk3
          clear HC2 hB3 hb3 hk3 hsz2
          have d5 := HC3.cell 5
          simp at d5
          go_wp2_with fail
          refine (writeString_any _ _ _ _ _ HC3.1 (by rw [cells_len]; simp only [List.length_append, List.length_cons, List.length_nil, Array.length_toList]; show _ + 12 ≤ _; have := hts3; omega) HC3.size).mono ?_
          rintro e w4 ⟨rfl, hB4, hb4, hk4, _⟩
          have HC4 := HC3.put (m := [32, 91, 114, 101, 99, 111, 118, 101, 114, 101, 100, 93]) hB4 (by rw [str_cells, cells_app]) hb4 hk4
          clear HC3 hB4 hb4 hk4 d5
          go_wp2_with fail
          refine (writeByte_any _ _ _ _ _ HC4.1 (by rw [cells_len]; simp only [List.length_append, List.length_cons, List.length_nil, Array.length_toList]; have := hts3; omega) HC4.size).mono ?_
          rintro e w5 ⟨rfl, hB5, hb5, hk5, hs5⟩
          have HC5 := HC4.put (m := [10]) hB5 (cells_10 _) hb5 hk5
          have hszw := HC4.2.2.1.size
          go_wp2_with fail
          refine ⟨⟨k + 1, by omega, by go_num, ?_, HC5.2.2.1, ?_⟩, by simp [intOf]; omega⟩
          · rw [crashB_take HX.out]
            have e := HC5.1
            simpa [lineB, hrc, h0q, List.append_assoc] using e
          · have := (Array.getElem?_eq_some_iff.1 HC5.2.1).1; omega
    · have hkl : k = l.length := by omega
      subst hkl
      rw [List.take_of_length_le (Nat.le_refl _)] at hbld
      go_wp2_with fail
      refine (Try.Builder_String_any _ _ _ _ hbld (Nat.le_of_lt hsz)).mono ?_
      rintro e w1 ⟨rfl, hb1⟩
      go_wp2_with fail
      go_ret
      exact ⟨rfl, hbel.trans hb1⟩
end Go.Proofs.Ytdpgcojgnehnpaa
