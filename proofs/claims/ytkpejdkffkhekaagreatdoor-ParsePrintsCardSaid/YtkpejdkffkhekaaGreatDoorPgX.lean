/- The program's counter: a node, by itself. Conditions: the kids stand ahead. -/
import Derived.Test.YtkpejdkffkhekaaGreatDoorPgV
import Derived.Test.YtkpejdkffkhekaaGreatDoorPgU
set_option maxRecDepth 100000
namespace Go.Proofs.YtkpejdkffkhekaaGreatDoor
open Go.ChangeShapes Go.WideShapes Go.ChangeAt Go.RowKit
/-- One element of the row of what is wanted. -/
theorem fvs_at {w : World} {M : Nat → Prop} {A : Option Addr} {n c i : Nat} {l : List FV} {f : FV} (h : (Shp.slice FV.sh).rd w M [.slice A n c] l) (hf : l[i]? = some f) : n = l.length ∧ ∃ b off u, A = some ⟨b, off, none⟩ ∧ M b ∧ w.cell? ⟨b, off + i, none⟩ = some u ∧ FVal w M u f := by
  obtain ⟨A', c', ess, e, h1, _, _, hr, ha⟩ := h
  simp only [List.cons.injEq, and_true] at e
  injection e with e1 e2 e3
  subst e1 e2 e3
  have hi := (List.getElem?_eq_some_iff.1 hf).1
  obtain ⟨b, off, cs, x, rfl, hb, hx, hrd, hcell⟩ := Shp.elem hr ha hi rfl
  rw [hf] at hx
  injection hx with hx
  subst hx
  obtain ⟨u, rfl, hu⟩ := hrd
  refine ⟨rfl, b, off, u, rfl, hb, ?_, hu⟩
  have := hcell 0 u rfl
  simpa [show FV.sh.size = 1 from rfl] using this
theorem fvs_form {w : World} {M : Nat → Prop} {v : Value} {l : List FV} (h : (Shp.slice FV.sh).rd w M [v] l) : ∃ A c, v = .slice A l.length c := by
  obtain ⟨A', c', ess, e, _⟩ := h
  simp only [List.cons.injEq, and_true] at e
  exact ⟨A', c', e⟩
set_option maxHeartbeats 4000000 in
theorem node_any {cb c : Nat} {A : Option Addr} {T : List ND} {M : Nat → Prop} (hup : UpP T) (hfit : ∀ x ∈ T, x.kids.length * 8 ≤ 140737488351232) (k : Nat) : k < T.length → ∀ (w : World) (nx : Nat), Cn cb A c T M nx w →
    Calls Tryz.prog 22 #[.pointer (some ⟨cb, 0, none⟩), .int .i64 (k : Int)] w (NP cb A c T M k nx w) := by
  induction k using Nat.strongRecOn with
  | _ k ih =>
    intro hk w nx h
    have HC := Lib.hid h
    obtain ⟨A', c', ess, e, hlc, hcm, _, hr, hall⟩ := h.rd
    simp at e
    obtain ⟨rfl, rfl⟩ := e
    obtain ⟨b, off, cs, x, rfl, hb, hx, hrd, hcell⟩ := Shp.elem hr hall hk rfl
    obtain ⟨A4, c4, rfl, q0, q3, r4, l4, m4, n4, b4⟩ := ND.elim hrd
    have e0 := hcell 0 _ rfl
    have e1 := hcell 1 _ rfl
    have e2 := hcell 2 _ rfl
    have e3 := hcell 3 _ rfl
    have e4 := hcell 4 _ rfl
    have hsz : ND.sh.size = 5 := rfl
    rw [hsz] at e0 e1 e2 e3 e4
    simp only [Nat.add_zero] at e0
    have c0 := h.c0
    have hki : (k : Int) < (T.length : Int) := by omega
    have hl := hfit x (List.mem_of_getElem? hx)
    have HX := Lib.hid hx
    have HI := Lib.hid ih
    have HU := Lib.hid hup
    have HR4 := Lib.hid r4
    have hbw := (h.mb b hb).1
    have hcw := h.lt
    clear h hr hall hx hrd hcell hsz r4 b4 ih hup hfit n4
    go_enter Tryz.func22, Tryz.ntmps22
    go_wp2_with fail
    have hw := wants_any x A4 c4 (w.alloc (.cells #[.int .i64 x.kind, .string x.text, .string x.typ, .int .i64 x.num, .slice A4 x.kids.length c4] 31)) hl
    unfold ndV at hw
    refine Calls.mono hw ?_
    rintro e w1 ⟨v, rfl, hwl, hb1⟩
    have hB : Below w.heap.size w w1 := sq (al _) hb1
    have g0 : w1.cell? ⟨w.heap.size, 0, none⟩ = some (.int .i64 x.kind) := (hb1.cell (p := ⟨w.heap.size, 0, none⟩) (by simp)).trans (by simp [go_sem])
    have g3 : w1.cell? ⟨w.heap.size, 3, none⟩ = some (.int .i64 x.num) := (hb1.cell (p := ⟨w.heap.size, 3, none⟩) (by simp)).trans (by simp [go_sem])
    have g4 : w1.cell? ⟨w.heap.size, 4, none⟩ = some (.slice A4 x.kids.length c4) := (hb1.cell (p := ⟨w.heap.size, 4, none⟩) (by simp)).trans (by simp [go_sem])
    have HC1 := Lib.hid (HC.out.below hB)
    have HB := Lib.hid hB
    have HW := Lib.hid (show okW x = true → (Shp.slice FV.sh).rd w1 (fun b => w.heap.size < b ∧ b < w1.heap.size) [v] (wnL x) from fun h => (Shp.slice FV.sh).more (hwl h) fun b hb => ⟨by have := hb.1; simp at this; omega, hb.2⟩)
    have hgl : w.heap.size < w1.heap.size := by have := hb1.size; simp at this; omega
    clear hw hwl hb1 hB
    by_cases hp : prgN x = true
    · have hcn : cntN x = true := by rw [← prgN_eq]; exact hp
      have HCN := Lib.hid hcn
      have hp' := hp
      unfold prgN at hp'
      simp only [Bool.and_eq_true, Bool.not_eq_true', Bool.and_eq_false_iff, decide_eq_false_iff_not] at hp'
      obtain ⟨⟨hok, h23⟩, h2⟩ := hp'
      have hwn : (wnL x).length = x.kids.length := by
        unfold okW at hok
        simp only [Bool.and_eq_true, decide_eq_true_eq] at hok
        exact hok.2
      have HR := Lib.hid (HW.out hok)
      obtain ⟨Av, cv, hv⟩ := fvs_form HR.out
      rw [hwn] at hv
      subst hv
      rw [hok]
      have HWN := Lib.hid hwn
      have hd : (x.kind = 23 ∧ ¬ x.num < 0 ∧ ¬ 1 < x.num) ∨ (x.kind = 2 ∧ x.num = (x.kids.length : Int) - 2) ∨ (x.kind = 33 ∧ x.num = (x.kids.length : Int) - 2) ∨ (¬ x.kind = 23 ∧ ¬ x.kind = 2 ∧ ¬ x.kind = 33) := by omega
      have hgc : w.heap.size ≠ cb := by omega
      clear hp hcn hok hwn h23 h2 HW
      rcases hd with ⟨k1, k2, k3⟩ | ⟨k1, k2⟩ | ⟨k1, k2⟩ | ⟨k1, k2, k3⟩
      all_goals (
        go_wp2_with fail
        go_loopg [58] x.kids.length (fun j vi wr => ∃ (i e : Nat), j + i = x.kids.length ∧ vi = .int .i64 (i : Int) ∧ Cn cb (some ⟨b, off, none⟩) c T M e wr ∧ Fwd T x nx i e ∧ Kx w1.heap.size cb w1 wr)
        · exact ⟨0, nx, by omega, rfl, HC1.out, rfl, Kx.refl _ _ _⟩
        · obtain ⟨i, e, hj, rfl, hc, hf, hx⟩ := hrel
          have HCr := Lib.hid hc
          have HF := Lib.hid hf
          have HXr := Lib.hid hx
          have n4 : wr.cell? ⟨w.heap.size, 4, none⟩ = some (.slice A4 x.kids.length c4) := (World.cell?_of_block (a := ⟨w.heap.size, 4, none⟩) (hx.block w.heap.size hgl hgc)).trans g4
          have d1 := hc.c1
          have f1 := hc.f1
          clear hc hf hx
          by_cases hlt : i < x.kids.length
          · have hli : (i : Int) < (x.kids.length : Int) := by omega
            obtain ⟨hq9, bv, ov, u, rfl, hbv, hu1, hfv⟩ := fvs_at HR.out (List.getElem?_eq_getElem (by rw [HWN.out]; exact hlt))
            clear hq9
            have hbv1 : w.heap.size < bv ∧ bv < w1.heap.size := hbv
            have u1 : wr.cell? ⟨bv, ov + i, none⟩ = some u := (World.cell?_of_block (a := ⟨bv, ov + i, none⟩) (HXr.out.block bv hbv1.2 (by omega))).trans hu1
            have HFV := Lib.hid (hfv.to (w' := wr) (M' := fun _ => True) fun b hb => ⟨trivial, HXr.out.block b hb.2 (by have := hb.1; omega)⟩)
            obtain ⟨z, hz⟩ : ∃ z, x.kids[i]? = some z := ⟨_, List.getElem?_eq_getElem hlt⟩
            have hzk := (HU.out k i z (by unfold kidAt; rw [HX.out]; exact hz)).1
            obtain ⟨q, rfl⟩ : ∃ q : Nat, z = (q : Int) := ⟨z.toNat, by omega⟩
            obtain ⟨b5, o5, rfl, hb5, hcl5⟩ := HR4.out.2 (by omega)
            have z0 := hcl5 i (.int .i64 (q : Int)) (by rw [List.getElem?_map, hz]; rfl)
            have hb5m := HC.out.mb b5 hb5
            have z1 : wr.cell? ⟨b5, o5 + i, none⟩ = some (.int .i64 (q : Int)) := (World.cell?_of_block (a := ⟨b5, o5 + i, none⟩) ((HXr.out.block b5 (by omega) hb5m.2).trans (HB.out.block b5 hb5m.1))).trans z0
            have hqk : q < k := by omega
            obtain ⟨y, hy⟩ : ∃ y, T[q]? = some y := ⟨_, List.getElem?_eq_getElem (show q < T.length by omega)⟩
            have HY := Lib.hid hy
            have HZ := Lib.hid hz
            have HFK := Lib.hid (show fvP ((wnL x)[i]'(by rw [HWN.out]; exact hlt)) y.kind = kidN x i y.kind by
              have := fv_kid HCN.out hlt y.kind
              rw [List.getElem?_eq_getElem (by rw [HWN.out]; exact hlt)] at this
              injection this)
            generalize (wnL x)[i]'(by rw [HWN.out]; exact hlt) = fv at *
            clear hy hz hzk hcl5 z0 hu1 hbv hfv hb5 hb5m
            have hil : i < 17592186043904 := by omega
            go_wp2_with fail
            refine Calls.mono (kid_any HCr.out HY.out HFV.out fun w nx hc => HI.out q hqk (by omega) w nx hc) ?_
            rintro e9 w3 ⟨r, nx', rfl, hc3, hk3, h1, h2⟩
            have HC3 := Lib.hid hc3
            have HK3 := Lib.hid (hk3.down (base' := w1.heap.size) HXr.out.size)
            have HST := Lib.hid (HF.out.step HZ.out HY.out)
            rw [HFK.out] at h1
            have H1 := Lib.hid h1
            have H2 := Lib.hid h2
            clear hc3 hk3 h1 h2
            cases r with
            | false =>
              go_wp2_with fail
              go_returns
              refine ⟨false, nx', rfl, HC3.out, (Kx.below HB.out).trans ((HXr.out.trans HK3.out).down (by omega)), ⟨fun h => (by cases h), fun h => ?_⟩, fun h => (by cases h)⟩
              obtain ⟨s, hs⟩ := ((startOf_fwd HX.out).1 h).2.pre (i + 1) (by omega)
              have hs' := hs
              obtain ⟨k', s', x', g1, _, _, _, _, rfl⟩ := hs'
              rw [HZ.out] at g1
              injection g1 with g1
              obtain rfl : q = k' := by omega
              exact H1.out.2 (HST.out.1 hs)
            | true =>
              have HE2 := Lib.hid (show nx' = q + 1 from H2.out rfl)
              go_wp2_with fail
              go_roundg (gk - 1)
              case rel => exact ⟨i + 1, q + 1, by omega, by go_num, by rw [← HE2.out]; exact HC3.out, HST.out.2 (H1.out.1 trivial), HXr.out.trans HK3.out⟩
              case measure => omega
          · have hil : i = x.kids.length := by omega
            have HIL := Lib.hid (hil ▸ HF.out : Fwd T x nx x.kids.length e)
            have hli : ¬ (i : Int) < (x.kids.length : Int) := by omega
            clear hil
            have HKW := Lib.hid (show wrap64 ((k : Int) + 1) = ((k + 1 : Nat) : Int) from by unfold RowKit.wrap64; unfold maxLen at hcm; omega)
            by_cases he : (e : Int) = (k : Int)
            · go_wp2_with fail
              go_returns
              exact ⟨true, k + 1, rfl, by rw [HKW.out]; exact HCr.out.put (k + 1), ((Kx.below HB.out).trans (HXr.out.down (by omega))).set _ _, ⟨fun _ => (startOf_fwd HX.out).2 ⟨HCN.out, by rw [← show e = k by omega]; exact HIL.out⟩, fun _ => rfl⟩, fun _ => rfl⟩
            · go_wp2_with fail
              go_returns
              exact ⟨false, e, rfl, HCr.out, (Kx.below HB.out).trans (HXr.out.down (by omega)), ⟨fun h => (by cases h), fun h => absurd (HIL.out.uniq ((startOf_fwd HX.out).1 h).2) (by omega)⟩, fun h => (by cases h)⟩)
    · have HP := Lib.hid (show startOf T k ≠ some nx from fun h => hp (by rw [prgN_eq]; exact ((startOf_fwd HX.out).1 h).1))
      unfold prgN at hp
      generalize okW x = ok at *
      cases ok with
      | false =>
        clear hp
        go_wp2_with fail
        go_returns
        exact ⟨false, nx, rfl, HC1.out, Kx.below HB.out, ⟨fun h => (by cases h), fun h => absurd h HP.out⟩, fun h => (by cases h)⟩
      | true =>
        have hd : (x.kind = 23 ∧ x.num < 0) ∨ (x.kind = 23 ∧ 1 < x.num) ∨ (x.kind = 2 ∧ x.num ≠ (x.kids.length : Int) - 2) ∨ (x.kind = 33 ∧ x.num ≠ (x.kids.length : Int) - 2) := by
          simp only [Bool.true_and, Bool.and_eq_true, Bool.not_eq_true', decide_eq_false_iff_not, Bool.and_eq_false_iff] at hp
          omega
        clear hp
        rcases hd with ⟨k1, k2⟩ | ⟨k1, k2⟩ | ⟨k1, k2⟩ | ⟨k1, k2⟩
        all_goals (
          rw [k1] at g0
          have HK := Lib.hid k1
          clear k1
          go_wp2_with fail)
        all_goals (
          go_returns
          exact ⟨false, nx, rfl, HC1.out, Kx.below HB.out, ⟨fun h => (by cases h), fun h => absurd h HP.out⟩, fun h => (by cases h)⟩)
end Go.Proofs.YtkpejdkffkhekaaGreatDoor
