/- The law of 'scan.Show'. Conditions: what comes in fits. -/
import Derived.Test.YtgjhjojbaieeaaaShw1
import Derived.Lib.AppendStr
import Derived.Test.YtgjhjojbaieeaaaBuild
import Derived.Test.YtgjhjojbaieeaaaScA
import Derived.Test.YtgjhjojbaieeaaaOpShape
import Derived.Test.YtgjhjojbaieeaaaOpen
set_option maxRecDepth 20000
namespace Go.Proofs.Ytgjhjojbaieeaaa
open Go.ChangeShapes Go.WideShapes Go.ChangeAt Go.RowKit
open Go.ChangeShapes Go.WideShapes Go.ChangeAt Go.RowKit Go.Deep

/-! ### Tk -/
def Tk.sh : Shp Tk := ((Shp.int).pair ((Shp.str).pair ((Shp.int).pair (Shp.int)))).as fun v => (v.k, v.s, v.l, v.c)
def Tk.bulk (v : Tk) : Nat := v.s.size
def Tk.fits (v : Tk) : Prop := v.s.size ≤ 140737488351232
theorem Tk.elim {w : World} {M : Nat → Prop} {cs : List Value} {v : Tk} (h : Tk.sh.rd w M cs v) :
    cs = [.int .i64 v.k, .string v.s, .int .i64 v.l, .int .i64 v.c] ∧ (-9223372036854775808 ≤ v.k ∧ v.k ≤ 9223372036854775807) ∧ (-9223372036854775808 ≤ v.l ∧ v.l ≤ 9223372036854775807) ∧ (-9223372036854775808 ≤ v.c ∧ v.c ≤ 9223372036854775807) := by
  obtain ⟨_, _, rfl, ⟨rfl, q0⟩, _, _, rfl, rfl, _, _, rfl, ⟨rfl, q2⟩, rfl, q3⟩ := h
  exact ⟨rfl, q0, q2, q3⟩
theorem Tk.intro {w : World} {M : Nat → Prop} {v : Tk} (q0 : -9223372036854775808 ≤ v.k ∧ v.k ≤ 9223372036854775807) (q2 : -9223372036854775808 ≤ v.l ∧ v.l ≤ 9223372036854775807) (q3 : -9223372036854775808 ≤ v.c ∧ v.c ≤ 9223372036854775807) : Tk.sh.rd w M [.int .i64 v.k, .string v.s, .int .i64 v.l, .int .i64 v.c] v :=
  ⟨[_], _, rfl, ⟨rfl, q0⟩, [_], _, rfl, rfl, [_], _, rfl, ⟨rfl, q2⟩, rfl, q3⟩
theorem Tk.op : Op Tk.sh Try.prog 78 Tk.bulk Tk.fits := by
  intro H enc w cs x h
  obtain ⟨hl, ys, hyl, hbk, hf⟩ := op_parts Try.underlying78 h
  match cs, hl, ys, hyl with
  | [c0, c1, c2, c3], _, [y0, y1, y2, y3], _ =>
    obtain ⟨_, e0, h0⟩ := hf 0 _ rfl
    obtain ⟨_, e1, h1⟩ := hf 1 _ rfl
    obtain ⟨_, e2, h2⟩ := hf 2 _ rfl
    obtain ⟨_, e3, h3⟩ := hf 3 _ rfl
    simp at e0 e1 e2 e3
    subst e0 e1 e2 e3
    obtain ⟨a0, m0, _⟩ := op_int' Try.underlying3 h0
    obtain ⟨a1, m1, f1, b1⟩ := op_str' Try.underlying9 h1
    have g1 : a1.size + 1 ≤ Rows.uptoBulk y1.1 := b1
    obtain ⟨a2, m2, _⟩ := op_int' Try.underlying3 h2
    obtain ⟨a3, m3, _⟩ := op_int' Try.underlying3 h3
    refine ⟨⟨a0, a1, a2, a3⟩, ⟨[c0], [c1, c2, c3], rfl, m0, [c1], [c2, c3], rfl, m1, [c2], [c3], rfl, m2, m3⟩, f1, ?_⟩
    rw [hbk]
    simp only [List.map_cons, List.map_nil, Rows.uptoBulkAll, Tk.bulk]
    omega
/-- A list of tokens that comes in. -/
def IsToks (w : World) (v : Value) : Prop := ∃ (A : Option Addr) (c : Nat) (l : List Tk), v = .slice A l.length c ∧ Rd w w.heap.size 4 A l.length (tkC l) ∧ l.length * 40 ≤ 140737488351232 ∧ ∀ t ∈ l, t.s.size ≤ 140737488351232
theorem toks_row {w : World} {M : Nat → Prop} : ∀ {ess : List (List Value)} {l : List Tk}, Tk.sh.all w M ess l → ess.flatten = tkC l
  | [], [], _ => rfl
  | [], _ :: _, h => by have := h.1; cases this
  | _ :: _, [], h => by have := h.1; cases this
  | e :: ess, t :: l, h => by
    have h0 := h.2 0 e t rfl rfl
    obtain ⟨rfl, _⟩ := Tk.elim h0
    have hr := toks_row (ess := ess) (l := l) ⟨by have := h.1; simpa using this, fun i c x hc hx => h.2 (i + 1) c x (by simpa using hc) (by simpa using hx)⟩
    rw [List.flatten_cons, hr]
    rfl
theorem op_toks {H : Type} {enc : TypeId × Value → H} {w : World} {base : Nat} {v : Value} {d : DataW H} {ps : List MemPlace} (hv : Value.okWide Try.prog w .any base 68 v) (h : DataW.Trod enc Try.prog w 0 (fun _ => true) true 68 v d ps) (hlt : ∀ x ∈ ps, x.block < w.heap.size) (hz : ∀ n ∈ d.weights Try.prog 68, n ≤ reachBytes) : IsToks w v := by
  obtain ⟨A, len, cap, rfl⟩ := okWide_slice Try.underlying68 hv
  obtain ⟨l, h1, h2, _⟩ := op_slice' (S := Tk.sh) (bytes := 40) Try.underlying68 (by kernel_rfl) (by kernel_rfl) (by show 0 < 4; omega) Tk.op (Opens.of h hlt hz)
  obtain ⟨A', c', ess, he, hlc, hcm, hA, hr, hall⟩ := h1
  have he' : Value.slice A len cap = .slice A' l.length c' := by injection he
  injection he' with q1 q2 q3
  subst q1 q2 q3
  refine ⟨A, _, l, rfl, ?_, h2.1, fun t ht => h2.2 t ht⟩
  rw [← toks_row hall]
  exact rdm_iff.2 hr
/-- The builder, and the round's own token. -/
def ShI (w0 : World) (g : Nat) (cs : Array Value) (l : List UInt8) (wx : World) : Prop :=
  Bld w0.heap.size w0.heap.size (Lib.byteCells l) wx ∧ wx.heap[g]? = some (.cells cs 78 (0, 0)) ∧ Below w0.heap.size w0 wx ∧ w0.heap.size < g
theorem bld_below {B b : Nat} {bs : List Value} {w w' : World} (h : Bld B b bs w) (hb : Below w.heap.size w w') : Bld B b bs w' := by
  have key : ∀ p, Lib.BuilderAt 138 5 B b p bs w → Lib.BuilderAt 138 5 B b p bs w' := by
    rintro p ⟨h1, v, h2, h3, h4⟩
    exact ⟨h1, v, (hb.block b (Array.getElem?_eq_some_iff.1 h2).1).trans h2, own_kept h3 hb, h4⟩
  exact h.imp (key _) (key _)
section
variable {w0 wx w' : World} {g : Nat} {cs : Array Value} {l : List UInt8}
theorem ShI.below (h : ShI w0 g cs l wx) (hb : Below wx.heap.size wx w') : ShI w0 g cs l w' :=
  ⟨bld_below h.1 hb, (hb.block g (Array.getElem?_eq_some_iff.1 h.2.1).1).trans h.2.1, below_more h.2.2.1 hb, h.2.2.2⟩
theorem ShI.put (h : ShI w0 g cs l wx) {m : List UInt8} {bs : List Value} (hB : Bld w0.heap.size w0.heap.size bs w') (hbs : bs = Lib.byteCells (l ++ m)) (hb : Below w0.heap.size wx w') (hk : Kpt w0.heap.size wx w') : ShI w0 g cs (l ++ m) w' :=
  ⟨hbs ▸ hB, hk g _ h.2.1 (by intro e; injection e with e; have := h.2.2.2; omega) (by intro c fz e; injection e with _ e; exact absurd e (by decide)), h.2.2.1.trans hb, h.2.2.2⟩
theorem ShI.cell (h : ShI w0 g cs l wx) (j : Nat) : wx.cell? ⟨g, j, none⟩ = cs[j]? := Lib.cell_of_heap h.2.1 j
theorem ShI.size (h : ShI w0 g cs l wx) : w0.heap.size ≤ wx.heap.size := h.2.2.1.size
theorem ShI.lt (h : ShI w0 g cs l wx) : w0.heap.size < wx.heap.size := by have := (Array.getElem?_eq_some_iff.1 h.2.1).1; have := h.2.2.2; omega
end
theorem str_cells (s : ByteArray) : Lib.strCells s = Lib.byteCells s.data.toList := rfl
theorem cells_app (l m : List UInt8) : Lib.byteCells l ++ Lib.byteCells m = Lib.byteCells (l ++ m) := by simp [Lib.byteCells]
theorem cells_len (l : List UInt8) : (Lib.byteCells l).length = l.length := by simp [Lib.byteCells]
theorem cells_10 (l : List UInt8) : Lib.byteCells l ++ [.int .u8 10] = Lib.byteCells (l ++ [10]) := by rw [← cells_app]; rfl
theorem cells_32 (l : List UInt8) : Lib.byteCells l ++ [.int .u8 32] = Lib.byteCells (l ++ [32]) := by rw [← cells_app]; rfl
set_option maxHeartbeats 4000000 in
theorem scanShow_any (A : Option Addr) (n c : Nat) (T : List Tk) (w : World) (hr : Rd w w.heap.size 4 A n (tkC T)) (hn : n = T.length) :
    Calls Try.prog 29 #[.slice A n c] w fun e w' => (∃ v, e = .returned v ∧ showV T v) ∧ Below w.heap.size w w' := by
  have HN := Lib.hid hn
  by_cases hbig : 2000 < n
  · have hbi : (2000 : Int) < (n : Int) := by omega
    have HV := Lib.hid (show 2000 < T.length by omega)
    clear hr hn hbig
    go_enter Try.func29, Try.ntmps29
    go_wp2_with fail
    go_returns
    exact ⟨⟨_, rfl, .inl ⟨HV.out, rfl⟩⟩, Below.refl _ _⟩
  have hle : n ≤ 2000 := by omega
  have hbi : ¬ (2000 : Int) < (n : Int) := by omega
  have HLE := Lib.hid (show T.length ≤ 2000 by omega)
  clear hn hbig
  go_enter Try.func29, Try.ntmps29
  go_wp2_with fail
  go_loopw [12] (fun i wr => ∃ k : Nat, k ≤ n ∧ i = .int .i64 k ∧ Bld w.heap.size w.heap.size (Lib.byteCells (outP T k)) wr ∧ Below w.heap.size w wr ∧ w.heap.size < wr.heap.size ∧ Hid (okTo T k)) (fun i _ => n - (intOf i).toNat)
  case atStart =>
    exact ⟨0, Nat.zero_le _, rfl, Lib.fresh_isBuilder _ _ w, al _, by simp, Lib.hid (fun i hi => by omega)⟩
  case round =>
    obtain ⟨k, hk, rfl, hbld, hbel, hsz, HOK⟩ := hrel
    have HOL := Lib.hid (outP_len HOK.out)
    by_cases hlt : k < n
    · obtain ⟨t, ht⟩ : ∃ t, T[k]? = some t := by
        have := HN.out
        exact ⟨T[k], List.getElem?_eq_getElem (by omega)⟩
      obtain ⟨b, off, hA, hbl, e0, e1, e2, e3⟩ := hr.tok HN.out ht
      rw [← hbel.cell (p := ⟨b, _, none⟩) hbl] at e0 e1 e2 e3
      have HPV := Lib.hid (fun (j : Nat) (hj : k = j + 1) => show w.cell? ⟨b, off + j * 4, none⟩ = some (.int .i64 (kAt T j)) by
        obtain ⟨u, hu⟩ : ∃ u, T[j]? = some u := by
          have := HN.out
          exact ⟨T[j], List.getElem?_eq_getElem (by omega)⟩
        obtain ⟨b', off', hA', _, e0', _⟩ := hr.tok HN.out hu
        rw [hA] at hA'
        injection hA' with hA'
        injection hA' with h1 h2
        subst h1 h2
        rw [kAt_of hu]
        exact e0')
      subst hA
      have HKS := Lib.hid (And.intro (kAt_of ht) (sAt_of ht))
      obtain ⟨tk, ts, tl, tc⟩ := t
      simp only at e0 e1 e2 e3 HKS
      have HBL := Lib.hid hbl
      have HC0 : ShI w wr.heap.size #[.int .i64 tk, .string ts, .int .i64 tl, .int .i64 tc] (outP T k) (wr.alloc (.cells #[.int .i64 tk, .string ts, .int .i64 tl, .int .i64 tc] 78)) := ⟨bld_below hbld (al _), heap_alloc_new _ _, below_more hbel (al _), hsz⟩
      generalize hG : wr.alloc (.cells #[.int .i64 tk, .string ts, .int .i64 tl, .int .i64 tc] 78) = W at HC0
      have HG := Lib.hid hG
      clear hG hbld hbl ht
      have d0 := HC0.cell 0
      have d1 := HC0.cell 1
      have d2 := HC0.cell 2
      have d3 := HC0.cell 3
      simp at d0 d1 d2 d3
      go_wp2_with fail
      rw [HG.out]
      refine (whole_any tk ts tl tc _).mono ?_
      rintro e w1 ⟨rfl, hb1⟩
      have HC1 := HC0.below hb1
      clear HC0 hb1 d0 d1 d2 d3 e0 e1 e2 e3
      cases hone : oneB tk ts.data.toList with
      | false =>
        have HX := Lib.hid (show ¬ okTo T T.length from fun h => by
          have h1 := h k (by have := HN.out; omega)
          rw [HKS.out.1, HKS.out.2, hone] at h1
          cases h1)
        clear hone
        go_wp2_with fail
        go_returns
        exact ⟨⟨_, rfl, .inr (.inl ⟨HLE.out, HX.out, rfl⟩)⟩, HC1.2.2.1⟩
      | true =>
        have HOK2 := Lib.hid (okTo_next HOK.out (by rw [HKS.out.1, HKS.out.2]; exact hone))
        have hl8 : ts.size ≤ 8000 := one_len hone
        clear hone
        have hol : (outP T k).length ≤ 16004000 := by have := HOL.out; have : k * 8002 ≤ 2000 * 8002 := Nat.mul_le_mul_right _ (by omega); omega
        rcases k with _ | j
        · have HC2 := HC1.put (m := gapP T 0) HC1.1 (by simp [gapP]) (Below.refl _ _) (Lib.OthersKept.refl _ _ _)
          clear HC1
          have f1 := HC2.cell 1
          simp at f1
          have hgap : (gapP T 0).length ≤ 1 := by unfold gapP; split <;> simp
          go_wp2_with fail
          refine (writeString_any _ _ _ _ _ HC2.1 (by rw [cells_len, List.length_append]; omega) HC2.size).mono ?_
          rintro e w3 ⟨rfl, hB3, hb3, hk3, _⟩
          have HC3 := HC2.put (m := ts.data.toList) hB3 (by rw [str_cells, cells_app]) hb3 hk3
          clear HC2 hB3 hb3 hk3 f1
          have f0 := HC3.cell 0
          simp at f0
          by_cases h6 : tk = 6
          · have h6b : (tk == 6) = true := by simpa using h6
            have H6 := Lib.hid h6
            clear h6
            go_wp2_with fail
            refine (writeByte_any _ _ _ _ _ HC3.1 (by rw [cells_len]; simp only [List.length_append]; rw [show ts.data.toList.length = ts.size from rfl]; omega) HC3.size).mono ?_
            rintro e w5 ⟨rfl, hB5, hb5, hk5, hs5⟩
            have HC5 := HC3.put (m := [10]) hB5 (cells_10 _) hb5 hk5
            have hszw := HC5.lt
            go_wp2_with fail
            exact ⟨⟨0 + 1, by omega, by go_num, by
              have e := HC5.1
              rw [outP, HKS.out.1, HKS.out.2, if_pos H6.out]
              exact e, HC5.2.2.1, hszw, HOK2⟩, by simp [intOf]; omega⟩
          · have h6b : (tk == 6) = false := by simpa using h6
            have H6 := Lib.hid h6
            clear h6
            have hszw := HC3.lt
            go_wp2_with fail
            exact ⟨⟨0 + 1, by omega, by go_num, by
              have e := HC3.1
              rw [outP, HKS.out.1, HKS.out.2, if_neg H6.out, List.append_nil]
              exact e, HC3.2.2.1, hszw, HOK2⟩, by simp [intOf]; omega⟩
        · have hp := HPV.out j rfl
          have hkj : (j : Int) < (n : Int) := by omega
          rw [← HC1.2.2.1.cell (p := ⟨b, _, none⟩) HBL.out] at hp
          by_cases hp6 : kAt T j = 6
          · have hp6b : (kAt T j != 6) = false := by simpa using hp6
            have HC2 := HC1.put (m := gapP T (j + 1)) HC1.1 (by unfold gapP; rw [if_neg (fun h => h.2 hp6), List.append_nil]) (Below.refl _ _) (Lib.OthersKept.refl _ _ _)
            clear HC1 hp6
            generalize kAt T j = kp at *
            have f1 := HC2.cell 1
            simp at f1
            have hgap : (gapP T (j + 1)).length ≤ 1 := by unfold gapP; split <;> simp
            go_wp2_with fail
            refine (writeString_any _ _ _ _ _ HC2.1 (by rw [cells_len, List.length_append]; omega) HC2.size).mono ?_
            rintro e w3 ⟨rfl, hB3, hb3, hk3, _⟩
            have HC3 := HC2.put (m := ts.data.toList) hB3 (by rw [str_cells, cells_app]) hb3 hk3
            clear HC2 hB3 hb3 hk3 f1
            have f0 := HC3.cell 0
            simp at f0
            by_cases h6 : tk = 6
            · have h6b : (tk == 6) = true := by simpa using h6
              have H6 := Lib.hid h6
              clear h6
              go_wp2_with fail
              refine (writeByte_any _ _ _ _ _ HC3.1 (by rw [cells_len]; simp only [List.length_append]; rw [show ts.data.toList.length = ts.size from rfl]; omega) HC3.size).mono ?_
              rintro e w5 ⟨rfl, hB5, hb5, hk5, hs5⟩
              have HC5 := HC3.put (m := [10]) hB5 (cells_10 _) hb5 hk5
              have hszw := HC5.lt
              go_wp2_with fail
              exact ⟨⟨j + 1 + 1, by omega, by go_num, by
                have e := HC5.1
                rw [outP, HKS.out.1, HKS.out.2, if_pos H6.out]
                exact e, HC5.2.2.1, hszw, HOK2⟩, by simp [intOf]; omega⟩
            · have h6b : (tk == 6) = false := by simpa using h6
              have H6 := Lib.hid h6
              clear h6
              have hszw := HC3.lt
              go_wp2_with fail
              exact ⟨⟨j + 1 + 1, by omega, by go_num, by
                have e := HC3.1
                rw [outP, HKS.out.1, HKS.out.2, if_neg H6.out, List.append_nil]
                exact e, HC3.2.2.1, hszw, HOK2⟩, by simp [intOf]; omega⟩
          · have hp6b : (kAt T j != 6) = true := by simpa using hp6
            have HGP := Lib.hid (show gapP T (j + 1) = [32] by unfold gapP; rw [if_pos ⟨by omega, hp6⟩])
            clear hp6
            generalize kAt T j = kp at *
            go_wp2_with fail
            refine (writeByte_any _ _ _ _ _ HC1.1 (by rw [cells_len]; omega) HC1.size).mono ?_
            rintro e w2 ⟨rfl, hB2, hb2, hk2, _⟩
            have HC2 := HC1.put (m := gapP T (j + 1)) hB2 (by rw [HGP.out]; exact cells_32 _) hb2 hk2
            clear HC1 hB2 hb2 hk2
            have f1 := HC2.cell 1
            simp at f1
            have hgap : (gapP T (j + 1)).length ≤ 1 := by unfold gapP; split <;> simp
            go_wp2_with fail
            refine (writeString_any _ _ _ _ _ HC2.1 (by rw [cells_len, List.length_append]; omega) HC2.size).mono ?_
            rintro e w3 ⟨rfl, hB3, hb3, hk3, _⟩
            have HC3 := HC2.put (m := ts.data.toList) hB3 (by rw [str_cells, cells_app]) hb3 hk3
            clear HC2 hB3 hb3 hk3 f1
            have f0 := HC3.cell 0
            simp at f0
            by_cases h6 : tk = 6
            · have h6b : (tk == 6) = true := by simpa using h6
              have H6 := Lib.hid h6
              clear h6
              go_wp2_with fail
              refine (writeByte_any _ _ _ _ _ HC3.1 (by rw [cells_len]; simp only [List.length_append]; rw [show ts.data.toList.length = ts.size from rfl]; omega) HC3.size).mono ?_
              rintro e w5 ⟨rfl, hB5, hb5, hk5, hs5⟩
              have HC5 := HC3.put (m := [10]) hB5 (cells_10 _) hb5 hk5
              have hszw := HC5.lt
              go_wp2_with fail
              exact ⟨⟨j + 1 + 1, by omega, by go_num, by
                have e := HC5.1
                rw [outP, HKS.out.1, HKS.out.2, if_pos H6.out]
                exact e, HC5.2.2.1, hszw, HOK2⟩, by simp [intOf]; omega⟩
            · have h6b : (tk == 6) = false := by simpa using h6
              have H6 := Lib.hid h6
              clear h6
              have hszw := HC3.lt
              go_wp2_with fail
              exact ⟨⟨j + 1 + 1, by omega, by go_num, by
                have e := HC3.1
                rw [outP, HKS.out.1, HKS.out.2, if_neg H6.out, List.append_nil]
                exact e, HC3.2.2.1, hszw, HOK2⟩, by simp [intOf]; omega⟩
    · have hkl : k = T.length := by have := HN.out; omega
      have HK := Lib.hid hkl
      have hL : (Lib.byteCells (outP T k)).length = (outP T k).length := cells_len _
      clear hkl
      obtain ⟨m, hm⟩ : ∃ m, m = (outP T k).length := ⟨_, rfl⟩
      have HM := Lib.hid hm
      rw [← hm] at hL
      clear hm
      go_wp2_with fail
      refine (Try.Builder_Len _ _ _ _ hbld).mono ?_
      rintro e w1 ⟨rfl, rfl⟩
      rw [hL]
      by_cases h8 : 8000 < m
      · have h8i : (8000 : Int) < (m : Int) := by omega
        go_wp2_with fail
        go_returns
        exact ⟨⟨_, rfl, .inr (.inr (.inl ⟨HLE.out, by rw [← HK.out]; exact HOK.out, by rw [← HK.out, ← HM.out]; exact h8, rfl⟩))⟩, hbel⟩
      · have h8i : ¬ (8000 : Int) < (m : Int) := by omega
        go_wp2_with fail
        refine (Try.Builder_String_any _ _ _ _ hbld (Nat.le_of_lt hsz)).mono ?_
        rintro e w2 ⟨rfl, hb2⟩
        go_wp2_with fail
        go_returns
        refine ⟨⟨_, rfl, .inr (.inr (.inr ⟨HLE.out, by rw [← HK.out]; exact HOK.out, by rw [← HK.out, ← HM.out]; omega, ?_⟩))⟩, hbel.trans hb2⟩
        rw [← HK.out]
        rfl
theorem info_u8s : (Try.prog.info? 5).map (fun i => (i.zero, i.size, i.bytes)) = some (some (.int .u8 0), 1, 1) := by kernel_rfl
/-- The text of the first k of n tokens, with what stands ahead of the next. -/
def outR (T : List Tk) (n k : Nat) : List UInt8 := outP T k ++ (if k < n then gapP T k else [])
theorem outR_lt {T : List Tk} {n k : Nat} (h : k < n) : outR T n k = outP T k ++ gapP T k := by unfold outR; rw [if_pos h]
theorem outR_end {T : List Tk} {n k : Nat} (h : ¬ k < n) : outR T n k = outP T k := by unfold outR; rw [if_neg h, List.append_nil]
theorem outR_six {T : List Tk} {n k : Nat} (h : k < n) (h6 : kAt T k = 6) : outR T n (k + 1) = outR T n k ++ sAt T k ++ [10] := by
  rw [outR_lt h]
  unfold outR
  rw [outP, if_pos h6]
  have : gapP T (k + 1) = [] := by unfold gapP; rw [if_neg (fun h => h.2 h6)]
  rw [this]
  simp
theorem outR_more {T : List Tk} {n k : Nat} (h : k < n) (h6 : kAt T k ≠ 6) (h1 : k + 1 < n) : outR T n (k + 1) = outR T n k ++ sAt T k ++ [32] := by
  rw [outR_lt h, outR_lt h1, outP, if_neg h6]
  have : gapP T (k + 1) = [32] := by unfold gapP; rw [if_pos ⟨by omega, h6⟩]
  rw [this]
  simp
theorem outR_last {T : List Tk} {n k : Nat} (h : k < n) (h6 : kAt T k ≠ 6) (h1 : ¬ k + 1 < n) : outR T n (k + 1) = outR T n k ++ sAt T k := by
  rw [outR_lt h, outR_end h1, outP, if_neg h6]
  simp
theorem outR_len {T : List Tk} {n k : Nat} (h : okTo T k) : (outR T n k).length ≤ k * 8002 + 1 := by
  have h1 := outP_len h
  have h2 : (if k < n then gapP T k else []).length ≤ 1 := by split <;> (try unfold gapP) <;> (try split) <;> simp
  unfold outR
  rw [List.length_append]
  omega
theorem str_b8 (s : ByteArray) : Lib.strCells s = b8 s.data.toList := rfl
set_option maxHeartbeats 4000000 in
theorem refShow_any (A : Option Addr) (n c : Nat) (T : List Tk) (w : World) (hr : Rd w w.heap.size 4 A n (tkC T)) (hn : n = T.length) :
    Calls Try.prog 30 #[.slice A n c] w fun e w' => (∃ v, e = .returned v ∧ showV T v) ∧ Below w.heap.size w w' := by
  obtain ⟨i0, hi, hz0, hz1, hz2⟩ := info_parts info_u8s
  have HN := Lib.hid hn
  by_cases hbig : 2000 < n
  · have hbi : (2000 : Int) < (n : Int) := by omega
    have HV := Lib.hid (show 2000 < T.length by omega)
    clear hr hn hbig
    go_enter Try.func30, Try.ntmps30
    go_wp2_with fail
    go_returns
    exact ⟨⟨_, rfl, .inl ⟨HV.out, rfl⟩⟩, Below.refl _ _⟩
  have hle : n ≤ 2000 := by omega
  have hbi : ¬ (2000 : Int) < (n : Int) := by omega
  have HLE := Lib.hid (show T.length ≤ 2000 by omega)
  clear hn hbig
  go_enter Try.func30, Try.ntmps30
  go_wp2_with fail
  go_loopw [4, 5] (fun o i wr => ∃ (k m : Nat) (B : Option Addr) (C : Nat), k ≤ n ∧ i = .int .i64 k ∧ o = .slice B m C ∧ Hid (m = (outR T n k).length) ∧ wr.ownsRow w.heap.size 5 1 (.slice B m C) m (b8 (outR T n k)) ∧ Below w.heap.size w wr ∧ Hid (okTo T k)) (fun _ i _ => n - (intOf i).toNat)
  case atStart =>
    refine ⟨0, 0, none, 0, Nat.zero_le _, rfl, rfl, Lib.hid ?_, ?_, Below.refl _ _, Lib.hid (fun i hi => by omega)⟩
    · simp [outR, outP, gapP]
    · simp [outR, outP, gapP]
      exact World.ownsRow_nil _ _ _ _
  case round =>
    obtain ⟨k, m, B, C, hk, rfl, rfl, HM, hown, hbel, HOK⟩ := hrel
    have hml : m ≤ 16004001 := by
      have h1 := outR_len (n := n) HOK.out
      have h2 := HM.out
      have : k * 8002 ≤ 2000 * 8002 := Nat.mul_le_mul_right _ (by omega)
      omega
    by_cases hlt : k < n
    · obtain ⟨t, ht⟩ : ∃ t, T[k]? = some t := by
        have := HN.out
        exact ⟨T[k], List.getElem?_eq_getElem (by omega)⟩
      obtain ⟨b, off, hA, hbl, e0, e1, e2, e3⟩ := hr.tok HN.out ht
      have HE := Lib.hid (And.intro hbl (And.intro e0 e1))
      rw [← hbel.cell (p := ⟨b, _, none⟩) hbl] at e0 e1 e2 e3
      subst hA
      have HKS := Lib.hid (And.intro (kAt_of ht) (sAt_of ht))
      obtain ⟨tk, ts, tl, tc⟩ := t
      simp only at e0 e1 e2 e3 HKS HE
      have HBE := Lib.hid hbel
      have HOW := Lib.hid hown
      clear hbl ht hown hbel
      go_wp2_with fail
      refine (one_any tk ts tl tc _).mono ?_
      rintro e w1 ⟨rfl, hb1⟩
      have HB1 := Lib.hid (below_more HBE.out hb1)
      have hown1 := own_kept HOW.out hb1
      clear hb1 e0 e1 e2 e3
      cases hone : oneB tk ts.data.toList with
      | false =>
        have HX := Lib.hid (show ¬ okTo T T.length from fun h => by
          have h1 := h k (by have := HN.out; omega)
          rw [HKS.out.1, HKS.out.2, hone] at h1
          cases h1)
        clear hone hown1
        go_wp2_with fail
        go_returns
        exact ⟨⟨_, rfl, .inr (.inl ⟨HLE.out, HX.out, rfl⟩)⟩, HB1.out⟩
      | true =>
        have HOK2 := Lib.hid (okTo_next HOK.out (by rw [HKS.out.1, HKS.out.2]; exact hone))
        have hl8 : ts.size ≤ 8000 := one_len hone
        have e1 := HE.out.2.2
        rw [← HB1.out.cell (p := ⟨b, _, none⟩) HE.out.1] at e1
        clear hone
        have hbs := HB1.out.size
        go_wp2_with (at_builtin; refine Lib.wpList_append_own_string _ rfl _ _ 136 9 rfl w.heap.size 5 i0 Try.underlying136 Try.underlying9 hi hz0 hz1 hz2 _ _ _ rfl hown1 ts rfl ?c3 ?c4 ?c5 ?_)
        case c3 => unfold maxLen; omega
        case c4 => omega
        case c5 => exact hbs
        intro v2 w2 hown2 hgrow2 _
        obtain ⟨B2, C2, rfl⟩ := own_form hown2
        rw [str_b8, ← b8_app] at hown2
        have HB2 := Lib.hid (HB1.out.grown hgrow2 hbs (fun q hq => (hown1.lt q hq).1))
        have HL2 := Lib.hid (show m + ts.size = (outR T n k ++ ts.data.toList).length by rw [List.length_append, ← HM.out]; rfl)
        have e0 := HE.out.2.1
        rw [← HB2.out.cell (p := ⟨b, _, none⟩) HE.out.1] at e0
        have hbs2 := HB2.out.size
        clear e1 hown1 hgrow2 hbs
        by_cases h6 : tk = 6
        · have h6b : (tk == 6) = true := by simpa using h6
          have H6 := Lib.hid h6
          clear h6
          go_wp2_with (at_builtin; refine wpList_append_rd _ rfl _ _ 136 rfl w.heap.size 5 i0 _ 1 1 Try.underlying136 hi hz0 hz1 hz2 rfl (by omega) _ _ _ rfl (hown2.alloc _) _ _ 1 1 [_] rfl (Rd.lit1 _ _ _) (one1 rfl) (by unfold maxLen; omega) (by omega) (by simp; omega) ?_; intro A3 c3 w3 hown3 hgrow3 _)
          have HB3 := Lib.hid ((HB2.out.alloc hbs2 _).grown hgrow3 (by simp; omega) (fun q hq => (hown2.lt q hq).1))
          have hrow : outR T n (k + 1) = outR T n k ++ ts.data.toList ++ [10] := by rw [outR_six hlt (by rw [HKS.out.1]; exact H6.out), HKS.out.2]
          exact ⟨⟨k + 1, m + ts.size + 1, A3, c3, by omega, by go_num, rfl, Lib.hid (by rw [hrow, List.length_append, ← HL2.out]; rfl), by rw [hrow, b8_app]; exact hown3, HB3.out, HOK2⟩, by simp [intOf]; omega⟩
        · have h6b : (tk == 6) = false := by simpa using h6
          have H6 := Lib.hid h6
          clear h6
          by_cases h1 : k + 1 < n
          · have h1i : (k : Int) + 1 < (n : Int) := by omega
            go_wp2_with (at_builtin; refine wpList_append_rd _ rfl _ _ 136 rfl w.heap.size 5 i0 _ 1 1 Try.underlying136 hi hz0 hz1 hz2 rfl (by omega) _ _ _ rfl (hown2.alloc _) _ _ 1 1 [_] rfl (Rd.lit1 _ _ _) (one1 rfl) (by unfold maxLen; omega) (by omega) (by simp; omega) ?_; intro A3 c3 w3 hown3 hgrow3 _)
            have HB3 := Lib.hid ((HB2.out.alloc hbs2 _).grown hgrow3 (by simp; omega) (fun q hq => (hown2.lt q hq).1))
            have hrow : outR T n (k + 1) = outR T n k ++ ts.data.toList ++ [32] := by rw [outR_more hlt (by rw [HKS.out.1]; exact H6.out) h1, HKS.out.2]
            exact ⟨⟨k + 1, m + ts.size + 1, A3, c3, by omega, by go_num, rfl, Lib.hid (by rw [hrow, List.length_append, ← HL2.out]; rfl), by rw [hrow, b8_app]; exact hown3, HB3.out, HOK2⟩, by simp [intOf]; omega⟩
          · have h1i : ¬ (k : Int) + 1 < (n : Int) := by omega
            have hrow : outR T n (k + 1) = outR T n k ++ ts.data.toList := by rw [outR_last hlt (by rw [HKS.out.1]; exact H6.out) h1, HKS.out.2]
            have HRow := Lib.hid hrow
            clear hrow
            go_wp2_with fail
            exact ⟨⟨k + 1, m + ts.size, B2, C2, by omega, by go_num, rfl, Lib.hid (by rw [HRow.out]; exact HL2.out), by rw [HRow.out]; exact hown2, HB2.out, HOK2⟩, by simp [intOf]; omega⟩
    · have hkl : k = T.length := by have := HN.out; omega
      have HK := Lib.hid hkl
      have hre : outR T n k = outP T T.length := by rw [outR_end hlt, hkl]
      rw [hre] at hown HM
      have HRE := Lib.hid hre
      clear hkl hre
      by_cases h8 : 8000 < m
      · have h8i : (8000 : Int) < (m : Int) := by omega
        go_wp2_with fail
        go_returns
        exact ⟨⟨_, rfl, .inr (.inr (.inl ⟨HLE.out, by rw [← HK.out]; exact HOK.out, by rw [← HM.out]; exact h8, rfl⟩))⟩, hbel⟩
      · have h8i : ¬ (8000 : Int) < (m : Int) := by omega
        have hx := run_str_b8 (P := Try.prog) (c := C) (l := outP T T.length) (Rd.of_own hown) 136 5 9 Try.underlying136 Try.underlying5 Try.underlying9
        go_wp2_with fail
        go_returns
        exact ⟨⟨_, rfl, .inr (.inr (.inr ⟨HLE.out, by rw [← HK.out]; exact HOK.out, by rw [← HM.out]; omega, rfl⟩))⟩, hbel⟩
theorem showV_form {T : List Tk} {v : Value} (h : showV T v) : ∃ (s : ByteArray) (e : Int), v = .tuple #[.string s, .int .i64 e] := by
  rcases h with ⟨_, rfl⟩ | ⟨_, _, rfl⟩ | ⟨_, _, _, rfl⟩ | ⟨_, _, _, rfl⟩ <;> exact ⟨_, _, rfl⟩
set_option maxHeartbeats 1000000 in
theorem walkScanShows (v0 : Value) (w : World) (w0 : IsToks w v0) : Calls Try.prog 7 #[v0] w fun e w' => e = .returned (.bool true) ∧ Below w.heap.size w w' := by
  obtain ⟨j0, hj, jz0, jz1, jz2⟩ := info_parts info_tok
  obtain ⟨A, c, T, rfl, hr, hl, hs⟩ := w0
  obtain ⟨n, hn⟩ : ∃ n, n = T.length := ⟨_, rfl⟩
  rw [← hn] at hr hl ⊢
  have HN := Lib.hid hn
  clear hn
  go_enter Try.func7, Try.ntmps7
  go_wp2_with (at_builtin; refine wpList_append_new _ rfl _ _ 68 rfl 78 j0 _ 4 40 Try.underlying68 hj jz0 jz1 jz2 rfl (by omega) rfl w.heap.size A n c (tkC T) rfl hr (tkC_one _) (by omega) (by unfold maxLen; omega) ?_; intro A1 c1 w1 hown hb)
  have HB := Lib.hid hb
  have HS := Lib.hid (scanShow_any A1 n c1 T w1 (Rd.of_own hown) HN.out)
  clear hown hb
  refine HS.out.mono ?_
  rintro e w2 ⟨⟨v, rfl, hv⟩, hb2⟩
  obtain ⟨s, x, rfl⟩ := showV_form hv
  have HV := Lib.hid hv
  have HB2 := Lib.hid (sq HB.out hb2)
  have HS2 := Lib.hid (refShow_any A n c T w2 (hr.into (Nat.le_refl _) HB2.out) HN.out)
  clear hv hb2 HS hr
  go_wp2_with fail
  refine HS2.out.mono ?_
  rintro e w3 ⟨⟨v, rfl, hv⟩, hb3⟩
  obtain rfl := showV_same HV.out hv
  have HB3 := Lib.hid (sq HB2.out hb3)
  have HS3 := Lib.hid (fun (W : World) (hW : W = w3.alloc (.cells #[.int .i64 1, .string ⟨#[97]⟩, .int .i64 0, .int .i64 0] 78)) => scanShow_any (some ⟨w3.heap.size, 0, none⟩) 1 1 [⟨1, ⟨#[97]⟩, 0, 0⟩] W (by subst hW; exact (Rd.lit w3 #[.int .i64 1, .string ⟨#[97]⟩, .int .i64 0, .int .i64 0] 78 1 4 rfl).more (by simp)) rfl)
  clear hv hb3 HS2
  go_wp2_with fail
  refine (HS3.out _ rfl).mono ?_
  rintro e w4 ⟨⟨v, rfl, hv⟩, hb4⟩
  obtain rfl := showV_same showV_a hv
  have HB4 := Lib.hid (sq (sq HB3.out (al _)) hb4)
  clear hv hb4 HS3
  go_wp2_with fail
  go_ret
  exact ⟨rfl, HB4.out⟩
end Go.Proofs.Ytgjhjojbaieeaaa
