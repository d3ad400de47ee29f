/- The decimal text of a number of any size. Conditions: none. -/
import Derived.Test.YtgjhjojbaieeaaaDoorSmall
import Derived.Test.YtgjhjojbaieeaaaDoorText
import Derived.Test.YtgjhjojbaieeaaaDoorRev
set_option maxRecDepth 20000
namespace Go.Proofs.YtgjhjojbaieeaaaDoor
open Go.ChangeShapes Go.WideShapes Go.ChangeAt Go.RowKit
def lenOf : Value → Nat | .slice _ n _ => n | _ => 0
/-- The digits of what is still to be told: none of 0. -/
def dz (q : Nat) : List Nat := if q = 0 then [] else dd q
theorem dz_step {q : Nat} (h : q ≠ 0) : dz q = dz (q / 10) ++ [48 + q % 10] := by
  unfold dz
  rw [if_neg h]
  by_cases h1 : q < 10
  · rw [if_pos (by omega), dd_lt h1, Nat.mod_eq_of_lt h1]; rfl
  · rw [if_neg (by omega), dd_ge h1]
/-- What the loop of the digits keeps. -/
def Dg (B : Nat) (W : World) (t : TypeId) (N : Nat) (b a : Value) (wr : World) : Prop :=
  ∃ (q : Nat) (A A2 : Option Addr) (c c2 : Nat) (bs : List Nat), a = .slice A (wds q).length c ∧ Rd wr wr.heap.size 1 A (wds q).length (u32s (wds q)) ∧ b = .slice A2 bs.length c2 ∧ wr.ownsRow B t 1 b bs.length (u8s bs) ∧ dz q ++ bs.reverse = dz N ∧ q ≤ N ∧ Below B W wr
theorem wds_mono {a b : Nat} (h : a ≤ b) : (wds a).length ≤ (wds b).length := by
  rcases Nat.lt_or_ge (wds b).length (wds a).length with h1 | h1
  · have := wds_len_lt h1; omega
  · exact h1
theorem Dg.start {W w1 : World} {B : Nat} {t : TypeId} {N c1 : Nat} {A1 : Option Addr} {B2 : Nat} {e : TypeId} (hown : w1.ownsRow B2 e 1 (.slice A1 (wds N).length c1) (wds N).length (u32s (wds N))) (hb : Below B W w1) : Dg B W t N (.slice none 0 0) (.slice A1 (wds N).length c1) w1 :=
  ⟨N, A1, none, c1, 0, [], rfl, Rd.of_own hown, rfl, World.ownsRow_nil _ _ _ _, by simp, Nat.le_refl _, hb⟩
theorem Rd.fresh {w w2 w3 : World} {size n B k0 : Nat} {A : Option Addr} {xs : List Value} {e : TypeId} {v : Value} {o : Obj} {m : Nat} {ys : List Value} (h : Rd w2 w2.heap.size size A n xs) (hA : ∀ b off, A = some ⟨b, off, none⟩ → w.heap.size ≤ b) (hown : w.ownsRow B e k0 v m ys) (hg : (w2.alloc o).grownBy w3 v.ownBlock) : Rd w3 w3.heap.size size A n xs := by
  have hs := hg.size
  simp at hs
  refine ⟨h.1, fun hn => ?_⟩
  obtain ⟨b, off, rfl, hb, hc⟩ := h.2 hn
  have h1 := hA b off rfl
  have hk : w3.heap[b]? = w2.heap[b]? := by
    rw [hg.block b (by simp; omega) (fun e => by have := (hown.lt b e.symm).2; omega), show (w2.alloc o).heap[b]? = w2.heap[b]? from heap_alloc_old w2 o hb]
  exact ⟨b, off, rfl, by omega, fun j u hu => (World.cell?_of_block (a := ⟨b, off + j, none⟩) hk).trans (hc j u hu)⟩
theorem Dg.step {B : Nat} {W wr w2 w3 : World} {t : TypeId} {N q c4 c5 m : Nat} {bs : List Nat} {A4 A5 : Option Addr} {v : Value} {o : Obj} (hq0 : q ≠ 0) (hq : q ≤ N) (hm : q % 10 = m) (hd : dz q ++ bs.reverse = dz N) (hown : wr.ownsRow B t 1 v bs.length (u8s bs)) (hrd : Rd w2 w2.heap.size 1 A4 (wds (q / 10)).length (u32s (wds (q / 10))))
    (hA4 : ∀ b off, A4 = some ⟨b, off, none⟩ → wr.heap.size ≤ b) (hb4 : Below wr.heap.size wr w2) (hown3 : w3.ownsRow B t 1 (.slice A5 (bs.length + 1) c5) (bs.length + 1) (u8s bs ++ [.int .u8 (48 + (m : Int))])) (hg : (w2.alloc o).grownBy w3 v.ownBlock) (hbel : Below B W wr) (hB : B ≤ wr.heap.size) :
    Dg B W t N (.slice A5 (bs.length + 1) c5) (.slice A4 (wds (q / 10)).length c4) w3 := by
  refine ⟨q / 10, A4, A5, c4, c5, bs ++ [48 + m], rfl, hrd.fresh hA4 hown hg, by simp, ?_, ?_, by omega, ?_⟩
  · have e : u8s (bs ++ [48 + m]) = u8s bs ++ [.int .u8 (48 + (m : Int))] := by rw [u8s_app, u8s_cons, u8s_nil]; simp
    rw [e]
    simpa using hown3
  · rw [← hd, dz_step hq0, hm]; simp
  · have h1 : Below B W w2 := hbel.trans (hb4.mono hB)
    exact (h1.alloc (Nat.le_trans hB hb4.size) o).grown hg (Nat.le_trans hB (Nat.le_trans hb4.size (by simp))) (fun k hk => (hown.lt k hk).1)
/-- What the loop that turns the digits round keeps. -/
def Rv (B : Nat) (W : World) (t : TypeId) (g c n : Nat) (L : List Nat) (i j : Value) (wr : World) : Prop :=
  ∃ (k : Nat) (z : Int) (xs : List Nat), i = .int .i64 (k : Int) ∧ j = .int .i64 z ∧ z + k + 1 = n ∧ k ≤ n ∧ Rvd L xs k ∧ wr.ownsRow B t 1 (.slice (some ⟨g, 0, none⟩) n c) n (u8s xs) ∧ Below B W wr
theorem Rv.start {B : Nat} {W wr : World} {t : TypeId} {g c n : Nat} {L : List Nat} {z : Int} (hz : z + 1 = n) (hown : wr.ownsRow B t 1 (.slice (some ⟨g, 0, none⟩) n c) n (u8s L)) (hb : Below B W wr) : Rv B W t g c n L (.int .i64 0) (.int .i64 z) wr :=
  ⟨0, z, L, rfl, rfl, by omega, by omega, Rvd.start L, hown, hb⟩
theorem u8s_get {l : List Nat} {k a : Nat} (h : l[k]? = some a) : (u8s l)[k]? = some (.int .u8 (a : Int)) := by simp [u8s, h]
theorem u8s_set (l : List Nat) (j x : Nat) : (u8s l).set j (.int .u8 (x : Int)) = u8s (l.set j x) := by simp [u8s, List.map_set]
theorem intText_any (g : Nat) (z : Int) (w : World) (h : Big w w.heap.size g z) (hz : (dd z.natAbs).length ≤ 100) (hw9 : (wds z.natAbs).length ≤ 1000000) :
    Calls Tryd.prog 31 #[.pointer (some ⟨g, 0, none⟩), .int .i64 10] w fun e w' => e = .returned (.string (decS z)) ∧ Below w.heap.size w w' := by
  obtain ⟨i0, hi, hz0, hz1, hz2⟩ := info_parts info_u8
  obtain ⟨A, c, h0, h1, hr, hl, hA, f0, f1, hg⟩ := h
  by_cases hzz : z = 0
  · subst hzz
    have e0 : (wds (Int.natAbs 0)).length = 0 := by rw [show Int.natAbs 0 = 0 from rfl, wds_zero]; rfl
    rw [e0] at h1
    go_enter Tryd.func31, Tryd.ntmps31
    go_wp2_with fail
    go_ret
    exact ⟨by rw [show decS 0 = ⟨#[48]⟩ by rw [decS, decL, if_neg (by omega), show Int.natAbs 0 = 0 from rfl, dd_lt (by omega)]; rfl]; rfl, Below.refl _ _⟩
  · have hp : 0 < (wds z.natAbs).length := by rw [List.length_pos_iff, ne_eq, wds_nil]; omega
    go_enter Tryd.func31, Tryd.ntmps31
    go_wp2_with fail
    refine (twin_any A _ c (wds z.natAbs) _ hr hw9).mono ?_
    rintro e w1 ⟨A1, c1, rfl, hown1, hb1⟩
    go_wp2_with fail
    go_loopw [5, 6] (fun b a wr => Dg w.heap.size w 5 z.natAbs b a wr) (fun b _ _ => 101 - lenOf b)
    case atStart => exact Dg.start hown1 hb1
    case round =>
      obtain ⟨q, A3, A2, c3, c2, bs, rfl, hrd, rfl, hown, hd, hq, hbel⟩ := hrel
      have hlen : (dz q).length + bs.length ≤ 100 := by
        have := congrArg List.length hd
        simp at this
        rw [this]; unfold dz; split
        · simp
        · exact hz
      have hwl := wds_mono hq
      have HD := Lib.hid hd
      clear hd hown1 hb1
      by_cases hq0 : q = 0
      · subst hq0
        rw [wds_zero] at *
        have k0 : wr.cell? ⟨g, 0, none⟩ = some (.bool (decide (z < 0))) := (hbel.cell (p := ⟨g, 0, none⟩) hg).trans h0
        have hbd : bs.reverse = dd z.natAbs := by
          have := HD.out
          unfold dz at this
          rw [if_pos rfl, if_neg (by omega), List.nil_append] at this
          exact this
        have HB := Lib.hid hbd
        have hbp : 0 < bs.length := by
          have := congrArg List.length hbd
          have := dd_pos z.natAbs
          simp at *; omega
        have hbl : bs.length ≤ 100 := by omega
        clear h0 h1 HD hbd hlen hrd hwl hq hz
        by_cases hneg : z < 0
        · rw [show decide (z < 0) = true by simp [hneg]] at k0
          go_wp2_with (at_builtin; refine wpList_append_rd _ rfl _ _ 46 rfl w.heap.size 5 i0 _ 1 1 Tryd.underlying46 hi hz0 hz1 hz2 rfl (by omega) _ _ _ rfl (hown.alloc _) _ _ 1 1 [_] rfl (Rd.lit1 _ _ _) (one1 rfl) (by unfold maxLen; omega) (by omega) (Nat.le_trans hbel.size (by simp)) ?_; intro A5 c5 w3 hown3 hgrow3 _)
          obtain ⟨g5, cp, hv5, _, _⟩ := hown3.form (by omega)
          injection hv5 with hv1 hv2 hv3
          subst hv1 hv3
          have HL := Lib.hid (show bs.length + 1 = (bs ++ [45]).length by simp)
          have hown4 : w3.ownsRow w.heap.size 5 1 (.slice (some ⟨g5, 0, none⟩) (bs.length + 1) c5) (bs.length + 1) (u8s (bs ++ [45])) := by rw [u8s_app, u8s_cons, u8s_nil]; simpa using hown3
          have hg5 := (hown4.lt g5 rfl).1
          have hbel3 : Below w.heap.size w w3 := below_grown (hbel.alloc hbel.size _) (Nat.le_trans hbel.size (by simp)) (hown.alloc _) (Nat.le_refl _) hgrow3
          clear hgrow3 hown3
          go_loopw [8, 9] (fun i j wr' => Rv w.heap.size w 5 g5 c5 (bs.length + 1) (bs ++ [45]) i j wr') (fun _ j _ => (intOf j + 1).toNat)
          case atStart => exact Rv.start (by omega) hown4 hbel3
          case round =>
            obtain ⟨k, z2, xs, rfl, rfl, hz2, hkn, hRv, hown5, hbel5⟩ := hrel
            have HRv := Lib.hid hRv
            clear hRv
            by_cases hlt : (k : Int) < z2
            · obtain ⟨j, rfl⟩ := Int.eq_ofNat_of_zero_le (show 0 ≤ z2 by omega)
              obtain ⟨p, hp5⟩ : ∃ p, ((bs ++ [45]) : List Nat)[k]? = some p := ⟨_, List.getElem?_eq_getElem (by have := HL.out; omega)⟩
              obtain ⟨q, hq5⟩ : ∃ q, ((bs ++ [45]) : List Nat)[j]? = some q := ⟨_, List.getElem?_eq_getElem (by have := HL.out; omega)⟩
              have cp5 := hown5.cellAt k (by omega)
              have cq5 := hown5.cellAt j (by omega)
              rw [u8s_get ((HRv.out.at (by omega) (by have := HL.out; omega)).trans hp5)] at cp5
              rw [u8s_get ((HRv.out.at (by omega) (by have := HL.out; omega)).trans hq5)] at cq5
              have fp5 := hown5.frozenAt k
              have fq5 := hown5.frozenAt j
              have hst1 := (hown5.stored k (.int .u8 (q : Int))).1
              have hst2 := (hst1.stored j (.int .u8 (p : Int))).1
              rw [u8s_set, u8s_set] at hst2
              have HST := Lib.hid (And.intro hst2 (HRv.out.step (by have := HL.out; omega) (by omega) hp5 hq5))
              have hkj : ¬ k = j := by omega
              clear hst1 hst2 hp5 hq5
              go_wp2
              go_roundw
              case rel => exact ⟨k + 1, (j : Int) - 1, _, by go_num, rfl, by omega, by omega, HST.out.2, HST.out.1, (hbel5.setCell (by omega) _).setCell (by omega) _⟩
              case measure => simp [intOf]
            · have hdone := HRv.out.done (by have := HL.out; omega)
              have hx := run_str_u8s (P := Tryd.prog) (c := c5) (Rd.of_own hown5) 46 5 9 Tryd.underlying46 Tryd.underlying5 Tryd.underlying9
              have hfin : (bs ++ [45]).reverse = decL z := by rw [List.reverse_append, HB.out, decL, if_pos hneg]; rfl
              rw [hdone, hfin] at hx
              clear hdone hfin
              go_wp2_with (simp only [hx])
              go_ret
              exact ⟨rfl, hbel5⟩
        · rw [show decide (z < 0) = false by simp [hneg]] at k0
          obtain ⟨g5, cp, hv5, _, _⟩ := hown.form hbp
          injection hv5 with hv1 hv2 hv3
          subst hv1 hv3
          have HL := Lib.hid (show bs.length = bs.length from rfl)
          have hg5 := (hown.lt g5 rfl).1
          go_wp2_with fail
          go_loopw [8, 9] (fun i j wr' => Rv w.heap.size w 5 g5 c2 bs.length bs i j wr') (fun _ j _ => (intOf j + 1).toNat)
          case atStart => exact Rv.start (by omega) hown hbel
          case round =>
            obtain ⟨k, z2, xs, rfl, rfl, hz2, hkn, hRv, hown5, hbel5⟩ := hrel
            have HRv := Lib.hid hRv
            clear hRv
            by_cases hlt : (k : Int) < z2
            · obtain ⟨j, rfl⟩ := Int.eq_ofNat_of_zero_le (show 0 ≤ z2 by omega)
              obtain ⟨p, hp5⟩ : ∃ p, (bs : List Nat)[k]? = some p := ⟨_, List.getElem?_eq_getElem (by have := HL.out; omega)⟩
              obtain ⟨q, hq5⟩ : ∃ q, (bs : List Nat)[j]? = some q := ⟨_, List.getElem?_eq_getElem (by have := HL.out; omega)⟩
              have cp5 := hown5.cellAt k (by omega)
              have cq5 := hown5.cellAt j (by omega)
              rw [u8s_get ((HRv.out.at (by omega) (by have := HL.out; omega)).trans hp5)] at cp5
              rw [u8s_get ((HRv.out.at (by omega) (by have := HL.out; omega)).trans hq5)] at cq5
              have fp5 := hown5.frozenAt k
              have fq5 := hown5.frozenAt j
              have hst1 := (hown5.stored k (.int .u8 (q : Int))).1
              have hst2 := (hst1.stored j (.int .u8 (p : Int))).1
              rw [u8s_set, u8s_set] at hst2
              have HST := Lib.hid (And.intro hst2 (HRv.out.step (by have := HL.out; omega) (by omega) hp5 hq5))
              have hkj : ¬ k = j := by omega
              clear hst1 hst2 hp5 hq5
              go_wp2
              go_roundw
              case rel => exact ⟨k + 1, (j : Int) - 1, _, by go_num, rfl, by omega, by omega, HST.out.2, HST.out.1, (hbel5.setCell (by omega) _).setCell (by omega) _⟩
              case measure => simp [intOf]
            · have hdone := HRv.out.done (by have := HL.out; omega)
              have hx := run_str_u8s (P := Tryd.prog) (c := c2) (Rd.of_own hown5) 46 5 9 Tryd.underlying46 Tryd.underlying5 Tryd.underlying9
              have hfin : bs.reverse = decL z := by rw [HB.out, decL, if_neg (by omega)]
              rw [hdone, hfin] at hx
              clear hdone hfin
              go_wp2_with (simp only [hx])
              go_ret
              exact ⟨rfl, hbel5⟩
      · have hp3 : 0 < (wds q).length := by rw [List.length_pos_iff, ne_eq, wds_nil]; exact hq0
        have hs := dz_step hq0
        have HS := Lib.hid hs
        rw [hs] at hlen
        simp at hlen
        clear hs
        go_wp2_with fail
        have hsm := small_any A3 c3 (wds q) (wds_lt q) 10 (by omega) (by omega) wr hrd (by omega)
        rw [wv_wds] at hsm
        refine hsm.mono ?_
        rintro e w2 ⟨A4, c4, rfl, hrd4, hlc4, hA4, hb4⟩
        have hmod : q % 10 < 10 := Nat.mod_lt _ (by omega)
        generalize hmm : q % 10 = m at *
        clear hsm
        go_wp2_with (at_builtin; refine wpList_append_rd _ rfl _ _ 46 rfl w.heap.size 5 i0 _ 1 1 Tryd.underlying46 hi hz0 hz1 hz2 rfl (by omega) _ _ _ rfl ((own_below hown hb4).alloc _) _ _ 1 1 [_] rfl (Rd.lit1 _ _ _) (one1 rfl) (by unfold maxLen; omega) (by omega) (Nat.le_trans hbel.size (Nat.le_trans hb4.size (by simp))) ?_; intro A5 c5 w3 hown3 hgrow3 _)
        go_roundw
        case rel => exact Dg.step hq0 hq hmm HD.out hown hrd4 hA4 hb4 hown3 hgrow3 hbel hbel.size
        case measure => simp [lenOf]; omega
theorem intString_any (g : Nat) (z : Int) (w : World) (h : Big w w.heap.size g z) (hz : (dd z.natAbs).length ≤ 100) (hw9 : (wds z.natAbs).length ≤ 1000000) :
    Calls Tryd.prog 21 #[.pointer (some ⟨g, 0, none⟩)] w fun e w' => e = .returned (.string (decS z)) ∧ Below w.heap.size w w' := by
  have H := Lib.hid h
  clear h
  go_enter Tryd.func21, Tryd.ntmps21
  go_wp2_with fail
  refine (intText_any g z w H.out hz hw9).mono ?_
  rintro e w1 ⟨rfl, hb⟩
  go_wp2_with fail
  go_ret
  exact ⟨rfl, hb⟩
end Go.Proofs.YtgjhjojbaieeaaaDoor
