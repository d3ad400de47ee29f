/- 'value.Line' and the document's Line: what they answer. Conditions: the bulk. -/
import Derived.Test.YtkkehbfceabhmaaShowR
import Derived.Test.YtkkehbfceabhmaaUp
import Derived.Test.YtkkehbfceabhmaaOwn
import Derived.Test.YtkkehbfceabhmaaB8
import Derived.Lib.AppendStr
set_option maxRecDepth 20000
namespace Go.Proofs.Ytkkehbfceabhmaa
open Go.ChangeShapes Go.WideShapes Go.ChangeAt Go.RowKit
def sB (x : VV) : List UInt8 := (showS x).data.toList
/-- The values' texts, with a space between. -/
def lineJ (l : List VV) : List UInt8 := Lib.join (l.map sB) [32]
theorem vv_range {w : World} {M : Nat → Prop} {cs : List Value} {l : List VV} (h : (Shp.slice VV.sh).rd w M cs l) : ∀ x ∈ l, (-9223372036854775808 ≤ x.n ∧ x.n ≤ 9223372036854775807) ∧ ∀ z ∈ x.l, -9223372036854775808 ≤ z ∧ z ≤ 9223372036854775807 := by
  obtain ⟨_, _, ess, _, _, _, _, _, hall⟩ := h
  intro p hp
  obtain ⟨i, hi, rfl⟩ := List.getElem_of_mem hp
  have he : i < ess.length := by rw [hall.1]; exact hi
  obtain ⟨_, _, _, _, _, _, _, _, hn, hz⟩ := VV.elim (hall.2 i _ _ (List.getElem?_eq_getElem he) (List.getElem?_eq_getElem hi))
  exact ⟨hn, hz⟩
theorem vbulk_le {l : List VV} {p : VV} (h : p ∈ l) : p.bulk ≤ (l.map VV.bulk).sum := by
  induction l with
  | nil => cases h
  | cons q r ih =>
    simp only [List.map_cons, List.sum_cons]
    rcases List.mem_cons.1 h with rfl | h
    · omega
    · have := ih h; omega
theorem vlen_le (l : List VV) : l.length ≤ (l.map VV.bulk).sum := by
  induction l with
  | nil => simp
  | cons q r ih =>
    have : 1 ≤ VV.bulk q := by unfold VV.bulk; omega
    simp only [List.map_cons, List.sum_cons, List.length_cons]
    omega
theorem sB_len {x : VV} (hn : -9223372036854775808 ≤ x.n ∧ x.n ≤ 9223372036854775807) (hz : ∀ z ∈ x.l, -9223372036854775808 ≤ z ∧ z ≤ 9223372036854775807) (hb : x.bulk ≤ 1048576) : (sB x).length ≤ 23068672 := by
  have := showS_len x hn hz
  have h2 : (sB x).length = (showS x).size := by simp [sB]
  omega
theorem lineJ_len (l : List VV) (h : ∀ x ∈ l, (sB x).length ≤ 23068672) (hl : l.length ≤ 1048576) : (lineJ l).length ≤ 24189256892416 := by
  have h1 := join_len (l.map sB) 23068672 (fun x hx => by
    obtain ⟨z, hz, rfl⟩ := List.mem_map.1 hx
    exact h z hz)
  rw [List.length_map] at h1
  have h2 : (23068672 + 1) * l.length ≤ (23068672 + 1) * 1048576 := Nat.mul_le_mul_left _ hl
  unfold lineJ
  omega
theorem lineJ_take {l : List VV} {k : Nat} {x : VV} (h : l[k]? = some x) : lineJ (l.take (k + 1)) = if k = 0 then sB x else lineJ (l.take k) ++ 32 :: sB x := by
  have hk : k < l.length := (List.getElem?_eq_some_iff.1 h).1
  unfold lineJ
  rw [List.take_add_one, h]
  simp only [Option.toList, List.map_append, List.map_cons, List.map_nil]
  rw [join_snoc]
  by_cases h0 : k = 0
  · subst h0; simp
  · rw [if_neg h0, if_neg (by
      intro e
      have hl : ((l.take k).map sB).length = k := by rw [List.length_map, List.length_take]; omega
      rw [e] at hl
      exact h0 hl.symm)]
theorem join_shows (l : List VV) : (Lib.join ((l.map showS).map (·.data.toList)) (⟨#[32]⟩ : ByteArray).data.toList) = lineJ l := by
  unfold lineJ sB
  rw [List.map_map]; rfl
set_option maxHeartbeats 1000000 in
theorem valueLine_any (A : Option Addr) (n c : Nat) (l : List VV) (w : World) (h : (Shp.slice VV.sh).rd w (· < w.heap.size) [.slice A n c] l) (hb : (l.map VV.bulk).sum ≤ 1048576) :
    Calls Try.prog 29 #[.slice A n c] w fun e w' => e = .returned (.string ⟨(lineJ l ++ [10]).toArray⟩) ∧ Below w.heap.size w w' := by
  obtain ⟨i0, hi, hz0, hz1, hz2⟩ := info_parts info_str
  have HRg := Lib.hid (vv_range h)
  have hll := vlen_le l
  obtain ⟨_, _, ess, he, hlc, hcm, hA, hr, hall⟩ := h
  simp at he
  obtain ⟨rfl, rfl, rfl⟩ := he
  have HB := Lib.hid (fun p (hp : p ∈ l) => Nat.le_trans (vbulk_le hp) hb)
  have hl2 : l.length ≤ 1048576 := by omega
  have HJL := Lib.hid (lineJ_len l (fun x hx => sB_len (HRg.out x hx).1 (HRg.out x hx).2 (HB.out x hx)) hl2)
  clear hb hll
  generalize hN : l.length = N at *
  have HN := Lib.hid hN
  clear hN
  go_enter Try.func29, Try.ntmps29
  go_wp2_with fail
  go_loopw [3, 8] (fun lv i wr => ∃ (k : Nat) (A' : Option Addr) (c' : Nat), k ≤ N ∧ i = .int .i64 k ∧ lv = .slice A' k c' ∧ wr.ownsRow w.heap.size 9 1 (.slice A' k c') k (((l.take k).map showS).map Value.string) ∧ Below w.heap.size w wr) (fun _ i _ => N - (intOf i).toNat)
  case atStart => exact ⟨0, none, 0, Nat.zero_le _, rfl, rfl, World.ownsRow_nil _ _ _ _, Below.refl _ _⟩
  case round =>
    obtain ⟨k, A', c', hk, rfl, rfl, hown, hbel⟩ := hrel
    by_cases hlt : k < N
    · obtain ⟨b, off, cs, x, rfl, hb, hx, hrd, hcell⟩ := Shp.elem hr hall hlt HN.out.symm
      obtain ⟨A2, c2, rfl, _⟩ := VV.elim hrd
      have e0 := hcell 0 _ rfl
      have e1 := hcell 1 _ rfl
      have e2 := hcell 2 _ rfl
      have e3 := hcell 3 _ rfl
      rw [← hbel.cell (p := ⟨b, _, none⟩) hb] at e0 e1 e2 e3
      have hsz : VV.sh.size = 4 := rfl
      rw [hsz] at e0 e1 e2 e3
      simp only [Nat.add_zero] at e0
      have HX := Lib.hid hx
      have HBx := Lib.hid (HB.out x (List.mem_of_getElem? HX.out))
      have HRD := Lib.hid (fun o => Shp.into (W := wr.alloc o) (S := VV.sh) hrd (below_more hbel (al _)) (by have := hbel.size; simp; omega))
      clear hsz hcell hx hrd hA hr hall
      go_wp2_with fail
      refine (valueShow_any x A2 c2 _ (HRD.out _) HBx.out).mono ?_
      rintro e w1 ⟨rfl, hb1⟩
      replace hown := own_kept (own_kept hown (al _)) hb1
      replace hbel := below_more (below_more hbel (al _)) hb1
      clear hb1 HRD e0 e1 e2 e3
      go_wp2_with ((at_builtin; refine wpList_append_rd _ rfl _ _ 50 rfl w.heap.size 9 i0 _ 1 16 Try.underlying50 hi hz0 hz1 hz2 rfl (by omega) _ _ _ rfl (hown.alloc _) _ _ 1 1 [_] rfl (Rd.lit1 _ _ _) (one1 rfl) (by unfold maxLen; omega) (by omega) (by have := hbel.size; simp; omega) ?_; intro A1 c1 w2 hown1 hg1 hat1))
      go_roundw
      case rel =>
        refine ⟨k + 1, A1, c1, by omega, by go_num, rfl, ?_, (hbel.alloc hbel.size _).grown hg1 (by have := hbel.size; simp; omega) (fun q hq => (hown.lt q hq).1)⟩
        have e : ((List.take (k + 1) l).map showS).map Value.string = ((List.take k l).map showS).map Value.string ++ [.string (showS x)] := by
          rw [List.take_add_one, HX.out]; simp
        rw [e]
        exact hown1
      case measure => simp [intOf]; omega
    · obtain rfl : k = N := by omega
      have ht : List.take k l = l := List.take_of_length_le (by have := HN.out; omega)
      rw [ht] at hown
      have hlx : (l.map showS).length = k := by rw [List.length_map]; exact HN.out
      have HJ := Lib.hid (join_shows l)
      have HE := Lib.hid (mk_app' (lineJ l) [10])
      have hjl := HJL.out
      have hsz : (⟨(lineJ l).toArray⟩ : ByteArray).size ≤ 24189256892416 := by show (lineJ l).toArray.size ≤ _; simpa using HJL.out
      rcases Nat.eq_zero_or_pos k with rfl | hpos
      · have hl0 : l = [] := List.eq_nil_of_length_eq_zero HN.out
        subst hl0
        go_wp2_with fail
        refine (Try.strings_Join_none _ _ _ _).mono ?_
        rintro e w1 ⟨rfl, rfl⟩
        have h00 : (⟨#[]⟩ : ByteArray).size = 0 := rfl
        go_wp2_with fail
        go_returns
        exact ⟨rfl, hbel⟩
      · obtain ⟨hkc, _, _⟩ := own_cap hown
        obtain ⟨bk, o, rfl, hbk, hcells⟩ := (Rd.of_own hown).2 hpos
        have hcells' : ∀ (j : Nat) x, (l.map showS)[j]? = some x → wr.cell? ⟨bk, o + j, none⟩ = some (.string x) := fun j x hj => hcells j _ (by rw [List.getElem?_map, hj]; rfl)
        have hj1 : (Lib.join ((l.map showS).map (·.data.toList)) (⟨#[32]⟩ : ByteArray).data.toList).length ≤ 140737488355328 := by rw [HJ.out]; have := HJL.out; omega
        have hjoin := Lib.hid (fun w' (hc : ∀ (j : Nat) x, (l.map showS)[j]? = some x → w'.cell? ⟨bk, o + j, none⟩ = some (.string x)) (hb : bk < w'.heap.size) => Try.strings_Join bk o c' (l.map showS) ⟨#[32]⟩ w' hc hb (by omega) (by omega) hj1)
        rw [hlx, HJ.out] at hjoin
        clear hj1 hcells
        go_wp2_with fail
        refine (hjoin.out _ hcells' hbk).mono ?_
        rintro e w1 ⟨rfl, hb1⟩
        go_wp2_with fail
        go_ret
        exact ⟨by rw [← HE.out]; rfl, below_more hbel hb1⟩
set_option maxHeartbeats 4000000 in
theorem refLine_any (A : Option Addr) (n c : Nat) (l : List VV) (w : World) (h : (Shp.slice VV.sh).rd w (· < w.heap.size) [.slice A n c] l) (hb : (l.map VV.bulk).sum ≤ 1048576) :
    Calls Try.prog 30 #[.slice A n c] w fun e w' => e = .returned (.string ⟨(lineJ l ++ [10]).toArray⟩) ∧ Below w.heap.size w w' := by
  obtain ⟨i0, hi, hz0, hz1, hz2⟩ := info_parts info_u8
  have HRg := Lib.hid (vv_range h)
  have hll := vlen_le l
  obtain ⟨_, _, ess, he, hlc, hcm, hA, hr, hall⟩ := h
  simp at he
  obtain ⟨rfl, rfl, rfl⟩ := he
  have HB := Lib.hid (fun p (hp : p ∈ l) => Nat.le_trans (vbulk_le hp) hb)
  have hl2 : l.length ≤ 1048576 := by omega
  have HSL := Lib.hid (fun x (hx : x ∈ l) => sB_len (HRg.out x hx).1 (HRg.out x hx).2 (HB.out x hx))
  clear hb hll
  generalize hN : l.length = N at *
  have HN := Lib.hid hN
  clear hN
  go_enter Try.func30, Try.ntmps30
  go_wp2_with fail
  go_loopw [3, 7] (fun lv i wr => ∃ (k m : Nat) (A' : Option Addr) (c' : Nat), k ≤ N ∧ i = .int .i64 k ∧ lv = .slice A' m c' ∧ m = (lineJ (l.take k)).length ∧ wr.ownsRow w.heap.size 5 1 (.slice A' m c') m (b8 (lineJ (l.take k))) ∧ Below w.heap.size w wr) (fun _ i _ => N - (intOf i).toNat)
  case atStart => exact ⟨0, 0, none, 0, Nat.zero_le _, rfl, rfl, rfl, World.ownsRow_nil _ _ _ _, Below.refl _ _⟩
  case round =>
    obtain ⟨k, m, A', c', hk, rfl, rfl, hm, hown, hbel⟩ := hrel
    have hml := lineJ_len (l.take k) (fun x hx => HSL.out x (List.mem_of_mem_take hx)) (by rw [List.length_take]; omega)
    have hm2 : m ≤ 24189256892416 := by omega
    have HM := Lib.hid hm
    clear hml hm
    by_cases hlt : k < N
    · obtain ⟨b, off, cs, x, rfl, hb, hx, hrd, hcell⟩ := Shp.elem hr hall hlt HN.out.symm
      obtain ⟨A2, c2, rfl, _⟩ := VV.elim hrd
      have e0 := hcell 0 _ rfl
      have e1 := hcell 1 _ rfl
      have e2 := hcell 2 _ rfl
      have e3 := hcell 3 _ rfl
      have hsz : VV.sh.size = 4 := rfl
      rw [hsz] at e0 e1 e2 e3
      simp only [Nat.add_zero] at e0
      have HX := Lib.hid hx
      have HBx := Lib.hid (HB.out x (List.mem_of_getElem? HX.out))
      have hxl : (showS x).size ≤ 23068672 := by have := HSL.out x (List.mem_of_getElem? HX.out); simpa [sB] using this
      have HRD := Lib.hid hrd
      clear hsz hcell hx hrd hA hr hall
      by_cases h0 : k = 0
      · have h0p : ¬ 0 < k := by omega
        have H0 := Lib.hid h0
        clear h0
        rw [← hbel.cell (p := ⟨b, _, none⟩) hb] at e0 e1 e2 e3
        go_wp2_with fail
        refine (refShow_any x A2 c2 _ (Shp.into (S := VV.sh) HRD.out hbel hbel.size) HBx.out).mono ?_
        rintro e w1 ⟨rfl, hb1⟩
        replace hown := own_kept hown hb1
        replace hbel := below_more hbel hb1
        clear hb1 e0 e1 e2 e3
        go_wp2_with ((at_builtin; refine Lib.wpList_append_own_string _ rfl _ _ 95 9 rfl w.heap.size 5 i0 Try.underlying95 Try.underlying9 hi hz0 hz1 hz2 _ _ _ rfl hown (showS x) rfl (by unfold maxLen; omega) (by omega) hbel.size ?_; intro v2 w2 hown2 hg2 _; obtain ⟨A5, c5, rfl⟩ := own_form hown2))
        refine ⟨⟨k + 1, m + (showS x).size, A5, c5, by omega, by go_num, rfl, ?_, ?_, hbel.grown hg2 hbel.size (fun q hq => (hown.lt q hq).1)⟩, by simp [intOf]; omega⟩
        · rw [lineJ_take HX.out, if_pos H0.out, HM.out, H0.out]
          simp [lineJ, Lib.join_nil, sB]
        · rw [lineJ_take HX.out, if_pos H0.out]
          have e : b8 (sB x) = b8 (lineJ (l.take k)) ++ Lib.strCells (showS x) := by rw [H0.out]; simp [lineJ, Lib.join_nil, b8]; rfl
          rw [e]
          exact hown2
      · have h0p : 0 < k := by omega
        have H0 := Lib.hid h0
        clear h0
        go_wp2_with (at_builtin; refine wpList_append_rd _ rfl _ _ 95 rfl w.heap.size 5 i0 _ 1 1 Try.underlying95 hi hz0 hz1 hz2 rfl (by omega) _ _ _ rfl (hown.alloc _) _ _ 1 1 [_] rfl (Rd.lit1 _ _ _) (one1 rfl) (by unfold maxLen; omega) (by omega) (by have := hbel.size; simp; omega) ?_; intro A1 c1 w4 hown1 hgrow1 _; have hbel4 : Below w.heap.size w w4 := (hbel.alloc hbel.size _).grown hgrow1 (by have := hbel.size; simp; omega) (fun q hq => (hown.lt q hq).1); have g0 := (hbel4.cell (p := ⟨b, _, none⟩) hb).trans e0; have g1 := (hbel4.cell (p := ⟨b, _, none⟩) hb).trans e1; have g2 := (hbel4.cell (p := ⟨b, _, none⟩) hb).trans e2; have g3 := (hbel4.cell (p := ⟨b, _, none⟩) hb).trans e3)
        replace hbel := hbel4
        replace hown := hown1
        clear hgrow1 hown1 hbel4
        refine (refShow_any x A2 c2 _ (Shp.into (S := VV.sh) HRD.out hbel hbel.size) HBx.out).mono ?_
        rintro e w1 ⟨rfl, hb1⟩
        replace hown := own_kept hown hb1
        replace hbel := below_more hbel hb1
        clear hb1 e0 e1 e2 e3 g0 g1 g2 g3
        go_wp2_with ((at_builtin; refine Lib.wpList_append_own_string _ rfl _ _ 95 9 rfl w.heap.size 5 i0 Try.underlying95 Try.underlying9 hi hz0 hz1 hz2 _ _ _ rfl hown (showS x) rfl (by unfold maxLen; omega) (by omega) hbel.size ?_; intro v2 w2 hown2 hg2 _; obtain ⟨A5, c5, rfl⟩ := own_form hown2))
        refine ⟨⟨k + 1, m + 1 + (showS x).size, A5, c5, by omega, by go_num, rfl, ?_, ?_, hbel.grown hg2 hbel.size (fun q hq => (hown.lt q hq).1)⟩, by simp [intOf]; omega⟩
        · rw [lineJ_take HX.out, if_neg H0.out, HM.out]
          simp [sB]
          omega
        · rw [lineJ_take HX.out, if_neg H0.out]
          have e : b8 (lineJ (l.take k) ++ 32 :: sB x) = b8 (lineJ (l.take k)) ++ [.int .u8 32] ++ Lib.strCells (showS x) := by rw [b8_app, b8_cons, List.append_assoc]; rfl
          rw [e]
          exact hown2
    · have hkl : k = l.length := by have := HN.out; omega
      rw [hkl, List.take_of_length_le (Nat.le_refl _)] at hown
      clear hkl
      go_wp2_with (at_builtin; refine wpList_append_rd _ rfl _ _ 95 rfl w.heap.size 5 i0 _ 1 1 Try.underlying95 hi hz0 hz1 hz2 rfl (by omega) _ _ _ rfl (hown.alloc _) _ _ 1 1 [_] rfl (Rd.lit1 _ _ _) (one1 rfl) (by unfold maxLen; omega) (by omega) (by have := hbel.size; simp; omega) ?_; intro A1 c1 w4 hown1 hgrow1 _)
      have hx := run_str_b8 (P := Try.prog) (c := c1) (l := lineJ l ++ [10]) (by rw [b8_app]; exact Rd.of_own hown1) 95 5 9 Try.underlying95 Try.underlying5 Try.underlying9
      go_wp2_with (simp only [hx])
      go_ret
      exact ⟨rfl, (hbel.alloc hbel.size _).grown hgrow1 (by have := hbel.size; simp; omega) (fun q hq => (hown.lt q hq).1)⟩
end Go.Proofs.Ytkkehbfceabhmaa
