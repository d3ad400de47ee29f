/- parse.Good. Conditions: none. -/
import Derived.Test.YtkpejdkffkhekaaGreatDoorPgX
import Derived.Test.YtkpejdkffkhekaaGreatDoorPgY
import Derived.Test.YtkpejdkffkhekaaGreatDoorPgRa
import Derived.Test.YtkpejdkffkhekaaGreatDoorPgRb
import Derived.Test.YtkpejdkffkhekaaGreatDoorPgRc
set_option maxRecDepth 100000
namespace Go.Proofs.YtkpejdkffkhekaaGreatDoor
open Go.ChangeShapes Go.WideShapes Go.ChangeAt Go.RowKit
theorem right_any {T : List ND} {A : Option Addr} {c : Nat} {x : ND} {A4 : Option Addr} {c4 : Nat} {w : World} (hkn : known x.kind = true) (hf : ND.fits x) (h : (Shp.slice ND.sh).rd w (· < w.heap.size) [.slice A T.length c] T) (r4 : RdM w (· < w.heap.size) 1 A4 x.kids.length (x.kids.map (Value.int .i64))) (hk : x.kind = 26 ∨ x.kind = 8 → ∃ (q : Nat) (y : ND), x.kids[0]? = some (q : Int) ∧ T[q]? = some y) : RgC T A c x (.slice A4 x.kids.length c4) w := by
  rcases kind_cases x.kind hkn with e | e | e | e | e | e | e | e | e | e | e | e | e | e | e | e | e | e | e | e | e | e | e | e | e | e | e | e
  all_goals first
    | exact right_func e
    | exact right_typed (.inl e) hf.2.1
    | exact right_typed (.inr e) hf.2.1
    | exact right_name (.inl e)
    | exact right_name (.inr e)
    | exact right_level e
    | exact right_text e hf.1
    | exact right_result e hf.2.1
    | exact right_unary e h r4 (hk (.inl e))
    | exact right_assign e h r4 (hk (.inr e))
    | exact right_plain (by omega)
set_option maxHeartbeats 4000000 in
theorem filled_any {T : List ND} {A : Option Addr} {c : Nat} {w : World} (h : (Shp.slice ND.sh).rd w (· < w.heap.size) [.slice A T.length c] T) (hf : ∀ x ∈ T, ND.fits x) (hn : T.length ≤ 4000) (hkn : ∀ x ∈ T, known x.kind = true) (hk : ∀ x ∈ T, x.kind = 26 ∨ x.kind = 8 → ∃ (q : Nat) (y : ND), x.kids[0]? = some (q : Int) ∧ T[q]? = some y) :
    Calls Tryz.prog 12 #[.slice A T.length c] w fun e w' => e = .returned (.bool (T.all (rgP T))) ∧ Below w.heap.size w w' := by
  have HT := Lib.hid h
  obtain ⟨A', c', ess, e, hlc, hcm, _, hr, hall⟩ := h
  simp at e
  obtain ⟨rfl, rfl⟩ := e
  have HR := Lib.hid hr
  have HA := Lib.hid hall
  have HF := Lib.hid hf
  have HK := Lib.hid hkn
  have HKK := Lib.hid hk
  clear hr hall hf hkn hk
  obtain ⟨N, hN⟩ : ∃ N, N = T.length := ⟨_, rfl⟩
  generalize hres : T.all (rgP T) = R
  have HRE := Lib.hid hres
  rw [← hN] at hlc hn ⊢
  have HN := Lib.hid hN
  clear hres hN
  go_enter Tryz.func12, Tryz.ntmps12
  go_wp2_with fail
  go_loopw [7] (fun i wr => ∃ (k : Nat), i = .int .i64 (k : Int) ∧ k ≤ N ∧ Hid ((T.drop k).all (rgP T) = R) ∧ Hid (Below w.heap.size w wr)) (fun i _ => N - (intOf i).toNat)
  case atStart => exact ⟨0, rfl, Nat.zero_le _, HRE, Lib.hid (Below.refl _ _)⟩
  case round =>
    obtain ⟨k, rfl, hk, HU, HB⟩ := hrel
    have hgsw : w.heap.size ≤ wr.heap.size := HB.out.size
    by_cases hlt : (k : Int) < (N : Int)
    · have hkT : k < T.length := by have := HN.out; omega
      have HTD := Lib.hid (show (T.drop k).all (rgP T) = (rgP T T[k] && (T.drop (k + 1)).all (rgP T)) by rw [List.drop_eq_getElem_cons hkT]; rfl)
      obtain ⟨b, off, cs, x, rfl, hb, hx, hrd, hcell⟩ := Shp.elem HR.out HA.out hkT rfl
      obtain ⟨A4, c4, rfl, q0, q3, r4, l4, m4, n4, b4⟩ := ND.elim hrd
      have hxk : T[k] = x := (List.getElem?_eq_some_iff.1 hx).2
      rw [hxk] at HTD
      have hww : ∀ o, wr.cell? ⟨b, o, none⟩ = w.cell? ⟨b, o, none⟩ := fun o => HB.out.cell (p := ⟨b, o, none⟩) hb
      have hbr : b < wr.heap.size := by omega
      have e0 := (hww _).trans (hcell 0 _ rfl)
      have e1 := (hww _).trans (hcell 1 _ rfl)
      have e2 := (hww _).trans (hcell 2 _ rfl)
      have e3 := (hww _).trans (hcell 3 _ rfl)
      have e4 := (hww _).trans (hcell 4 _ rfl)
      have hsz : ND.sh.size = 5 := rfl
      rw [hsz] at e0 e1 e2 e3 e4
      simp only [Nat.add_zero] at e0
      have HX := Lib.hid hx
      have HR4 := Lib.hid r4
      have HBE := Lib.hid (show Below w.heap.size w (wr.alloc (.cells #[.int .i64 x.kind, .string x.text, .string x.typ, .int .i64 x.num, .slice A4 x.kids.length c4] 31)) from HB.out.alloc hgsw _)
      clear hsz hcell hx hww hrd r4 q0 q3 b4 n4 l4 m4 hxk hkT
      go_wp2_with fail
      have hrg := right_any (T := T) (A := some ⟨b, off, none⟩) (c := c) (x := x) (A4 := A4) (c4 := c4) (w := wr.alloc (.cells #[.int .i64 x.kind, .string x.text, .string x.typ, .int .i64 x.num, .slice A4 x.kids.length c4] 31)) (HK.out x (List.mem_of_getElem? HX.out)) (HF.out x (List.mem_of_getElem? HX.out)) ((Shp.slice ND.sh).more ((Shp.slice ND.sh).keep HT.out fun p hp => HBE.out.cell hp) fun q hq => Nat.lt_of_lt_of_le hq HBE.out.size) ((HR4.out.keep fun p hp => HBE.out.cell hp).more fun q hq => Nat.lt_of_lt_of_le hq HBE.out.size) (HKK.out x (List.mem_of_getElem? HX.out))
      unfold RgC at hrg
      rw [← HN.out] at hrg
      refine Calls.mono hrg ?_
      rintro e w1 ⟨rfl, hb1⟩
      have HB1 := Lib.hid (HBE.out.trans (hb1.mono HBE.out.size))
      clear hb1 hrg
      generalize rgP T x = r at *
      cases r with
      | false =>
        have HRR := Lib.hid (show false = R by rw [← HU.out, HTD.out]; rfl)
        go_wp2_with fail
        go_ret
        exact ⟨by rw [← HRR.out]; rfl, HB1.out⟩
      | true =>
        have HRR := Lib.hid (show (T.drop (k + 1)).all (rgP T) = R by rw [← HU.out, HTD.out, Bool.true_and])
        go_wp2_with fail
        go_roundw
        case rel => exact ⟨k + 1, by simp, by omega, HRR, HB1⟩
        case measure => simp [intOf]; omega
    · have HRR := Lib.hid (show true = R by
        have := HU.out
        rw [List.drop_of_length_le (by have := HN.out; omega)] at this
        exact this)
      go_wp2_with fail
      go_ret
      exact ⟨by rw [← HRR.out]; rfl, HB.out⟩
theorem cntN_kn {n : ND} (h : cntN n = true) : known n.kind = true := by
  cases hk : known n.kind with
  | true => rfl
  | false => rw [cntN_known hk] at h; cases h
/-- What is laid right has what 'right' looks at. -/
theorem laid_kid {T : List ND} (h : LaidT T) {x : ND} (hx : x ∈ T) : known x.kind = true ∧ (x.kind = 26 ∨ x.kind = 8 → ∃ (q : Nat) (y : ND), x.kids[0]? = some (q : Int) ∧ T[q]? = some y) := by
  obtain ⟨k, hk, rfl⟩ := List.mem_iff_getElem.1 hx
  obtain ⟨a, ha⟩ := Option.isSome_iff_exists.1 (laid_all h k hk)
  obtain ⟨n, hn, hc, _⟩ := startOf_some ha
  rw [List.getElem?_eq_getElem hk] at hn
  injection hn with hn
  subst hn
  refine ⟨cntN_kn hc, fun he => ?_⟩
  have hl : 0 < T[k].kids.length := by
    generalize T[k] = n at *
    unfold cntN at hc
    rcases he with he | he
    · rw [he] at hc
      simp at hc
      omega
    · rw [he] at hc
      simp at hc
      omega
  have hz := List.getElem?_eq_getElem hl
  have hup := (laid_up h k 0 _ (by unfold kidAt; rw [List.getElem?_eq_getElem hk]; exact hz)).1
  generalize T[k].kids[0] = z at *
  exact ⟨z.toNat, T[z.toNat]'(by omega), by rw [hz, Int.toNat_of_nonneg hup.1], List.getElem?_eq_getElem _⟩
set_option maxHeartbeats 4000000 in
theorem shaped_any {T : List ND} {A : Option Addr} {c : Nat} {w : World} (h : (Shp.slice ND.sh).rd w (· < w.heap.size) [.slice A T.length c] T) (hf : ∀ x ∈ T, ND.fits x) (hn : T.length ≤ 4000) (h0 : 0 < T.length) :
    Calls Tryz.prog 11 #[.slice A T.length c] w fun e w' => ∃ b, e = .returned (.bool b) ∧ (b = true ↔ LaidT T) ∧ Below w.heap.size w w' := by
  have HT := Lib.hid h
  obtain ⟨m, hm⟩ : ∃ m, T.length = m + 1 := ⟨T.length - 1, by omega⟩
  obtain ⟨A', c', ess, e, hlc, hcm, _, hr, hall⟩ := h
  simp at e
  obtain ⟨rfl, rfl⟩ := e
  have hf8 : ∀ x ∈ T, x.kids.length * 8 ≤ 140737488351232 := fun x hx => (hf x hx).2.2
  obtain ⟨b, off, cs, x, rfl, hb, hx, hrd, hcell⟩ := Shp.elem hr hall (show m < T.length by omega) rfl
  obtain ⟨A4, c4, rfl, _⟩ := ND.elim hrd
  have e0 := hcell 0 _ rfl
  have hsz : ND.sh.size = 5 := rfl
  rw [hsz] at e0
  simp only [Nat.add_zero] at e0
  have HUP := Lib.hid (upward_any T _ c w HT.out hn hf8)
  have HL := Lib.hid (show LaidT T ↔ UpP T ∧ x.kind = 1 ∧ startOf T m = some 0 from ⟨fun h => ⟨laid_up h, by
      obtain ⟨_, ⟨n, h1, h2⟩, h3⟩ := h
      rw [show T.length - 1 = m by omega] at h1 h3
      rw [hx] at h1
      injection h1 with h1
      rw [h1]
      exact ⟨h2, h3⟩⟩, fun h => ⟨h0, ⟨x, by rw [show T.length - 1 = m by omega]; exact hx, h.2.1⟩, by rw [show T.length - 1 = m by omega]; exact h.2.2⟩⟩)
  have HND := Lib.hid (fun (cb c : Nat) (A : Option Addr) (M : Nat → Prop) (hU : UpP T) => node_any (cb := cb) (c := c) (A := A) (M := M) hU hf8 m (by omega))
  have HM := Lib.hid hm
  have hm1 : wrap64 (((m + 1 : Nat) : Int) - 1) = ((m : Nat) : Int) := by unfold RowKit.wrap64; omega
  rw [hm] at hlc hn HUP
  rw [hm]
  generalize hup : upT 0 T (List.replicate (m + 1) false) = r at *
  have HU2 := Lib.hid (show r = true ↔ UpP T by rw [← hup, ← hm]; exact upT_iff T)
  clear hr hall hf hf8 hx hrd hcell hsz h0 hm hup
  go_enter Tryz.func11, Tryz.ntmps11
  go_wp2_with fail
  refine Calls.mono HUP.out ?_
  rintro e w1 ⟨rfl, hb1⟩
  have g0 := (hb1.cell (p := ⟨b, off + m * 5, none⟩) hb).trans e0
  have HB1 := Lib.hid hb1
  have hs1 : w.heap.size ≤ w1.heap.size := hb1.size
  clear hb1 e0
  cases r with
  | false =>
    have HNL := Lib.hid (show ¬ LaidT T from fun h => by cases HU2.out.2 (HL.out.1 h).1)
    go_wp2_with fail
    go_ret
    exact ⟨false, rfl, ⟨fun h => (by cases h), fun h => absurd h HNL.out⟩, HB1.out⟩
  | true =>
    have HUPP := Lib.hid (HU2.out.1 rfl)
    have hmi : (m : Int) < ((m + 1 : Nat) : Int) := by omega
    by_cases hk1 : x.kind = 1
    · rw [hk1] at g0
      have HK1 := Lib.hid hk1
      clear hk1
      go_wp2_with fail
      have HCN := Lib.hid (show Cn w1.heap.size (some ⟨b, off, none⟩) c T (· < w.heap.size) 0 (w1.alloc (.cells #[.slice (some ⟨b, off, none⟩) (m + 1) c, .int .i64 0] 50)) from
        ⟨by rw [HM.out]; simp [go_sem], by simp [go_sem], by simp [go_sem], (Shp.slice ND.sh).keep HT.out (fun p hp => (World.cell?_of_block (heap_alloc_old _ _ (Nat.lt_of_lt_of_le hp hs1))).trans (HB1.out.cell hp)), fun q hq => by simp; omega, by simp⟩)
      refine Calls.mono (HND.out w1.heap.size c (some ⟨b, off, none⟩) (· < w.heap.size) HUPP.out _ 0 HCN.out) ?_
      rintro e w2 ⟨r, nx', rfl, hc2, hk2, h1, h2⟩
      have d1 := hc2.c1
      have HB2 := Lib.hid (show Below w.heap.size w w2 from HB1.out.trans ⟨hk2.os, hk2.tape, hk2.output, by have := hk2.size; simp at this; omega, fun k hk => (hk2.block k (by simp; omega) (by omega)).trans (heap_alloc_old _ _ (by omega))⟩)
      have HR2 := Lib.hid (show r = true ↔ LaidT T from ⟨fun h => HL.out.2 ⟨HUPP.out, HK1.out, h1.1 h⟩, fun h => h1.2 (HL.out.1 h).2.2⟩)
      have HN2 := Lib.hid h2
      clear hc2 hk2 h1 h2 g0
      cases r with
      | false =>
        go_wp2_with fail
        go_ret
        exact ⟨false, rfl, HR2.out, HB2.out⟩
      | true =>
        have hnx : nx' = m + 1 := HN2.out rfl
        rw [hnx] at d1
        clear hnx
        go_wp2_with fail
        go_ret
        exact ⟨true, rfl, ⟨fun _ => HR2.out.1 trivial, fun _ => rfl⟩, HB2.out⟩
    · have HNL := Lib.hid (show ¬ LaidT T from fun h => hk1 (HL.out.1 h).2.1)
      have hk2 : (x.kind == 1) = false := by simpa using hk1
      clear hk1
      go_wp2_with fail
      go_ret
      exact ⟨false, rfl, ⟨fun h => (by cases h), fun h => absurd h HNL.out⟩, HB1.out⟩
/-- What 'Good' answers. -/
def GoodT (T : List ND) : Prop := T.length ≤ 4000 ∧ LaidT T ∧ T.all (rgP T) = true
def GdR (T : List ND) (w : World) (e : Ending) (w' : World) : Prop := ∃ b, e = .returned (.bool b) ∧ (b = true ↔ GoodT T) ∧ Below w.heap.size w w'
theorem GdR.no {T : List ND} {w w' : World} (h : ¬ GoodT T) (hb : Below w.heap.size w w') : GdR T w (.returned (.bool false)) w' := ⟨false, rfl, ⟨fun h => (by cases h), fun g => absurd g h⟩, hb⟩
theorem GdR.of {T : List ND} {w w' : World} (b : Bool) (h : b = true ↔ GoodT T) (hb : Below w.heap.size w w') : GdR T w (.returned (.bool b)) w' := ⟨b, rfl, h, hb⟩
set_option maxHeartbeats 4000000 in
theorem good_any {T : List ND} {A : Option Addr} {c : Nat} {w : World} (h : (Shp.slice ND.sh).rd w (· < w.heap.size) [.slice A T.length c] T) (hf : ∀ x ∈ T, ND.fits x) :
    Calls Tryz.prog 7 #[.slice A T.length c] w (GdR T w) := by
  have HT := Lib.hid h
  have HF := Lib.hid hf
  clear h hf
  obtain ⟨N, hN⟩ : ∃ N, N = T.length := ⟨_, rfl⟩
  have HN := Lib.hid hN
  rw [← hN]
  clear hN
  by_cases h0 : 0 < (N : Int)
  · by_cases h4 : (N : Int) ≤ 4000
    · go_enter Tryz.func7, Tryz.ntmps7
      go_wp2_with fail
      have hsh := shaped_any HT.out HF.out (by have := HN.out; omega) (by have := HN.out; omega)
      rw [← HN.out] at hsh
      refine Calls.mono hsh ?_
      rintro e w1 ⟨r, rfl, h1, hb1⟩
      have H1 := Lib.hid h1
      have HB1 := Lib.hid hb1
      clear hsh h1 hb1
      cases r with
      | false =>
        go_wp2_with fail
        go_ret
        exact GdR.no (fun h => by cases H1.out.2 h.2.1) HB1.out
      | true =>
        go_wp2_with fail
        have hL := H1.out.1 trivial
        have hfl := filled_any (w := w1) ((Shp.slice ND.sh).more ((Shp.slice ND.sh).keep HT.out fun p hp => HB1.out.cell hp) fun q hq => Nat.lt_of_lt_of_le hq HB1.out.size) HF.out (by have := HN.out; omega) (fun x hx => (laid_kid hL hx).1) (fun x hx => (laid_kid hL hx).2)
        rw [← HN.out] at hfl
        refine Calls.mono hfl ?_
        rintro e w2 ⟨rfl, hb2⟩
        have HB2 := Lib.hid (sq HB1.out hb2)
        have HG := Lib.hid (show T.all (rgP T) = true ↔ GoodT T from ⟨fun h => ⟨by have := HN.out; omega, hL, h⟩, fun h => h.2.2⟩)
        clear hb2 hfl hL
        generalize T.all (rgP T) = r at *
        go_wp2_with fail
        go_ret
        exact GdR.of r HG.out HB2.out
    · have HG := Lib.hid (show ¬ GoodT T from fun h => by have := h.1; have := HN.out; omega)
      go_enter Tryz.func7, Tryz.ntmps7
      go_wp2_with fail
      go_ret
      exact GdR.no HG.out (Below.refl _ _)
  · have HG := Lib.hid (show ¬ GoodT T from fun h => by have := h.2.1.1; have := HN.out; omega)
    go_enter Tryz.func7, Tryz.ntmps7
    go_wp2_with fail
    go_ret
    exact GdR.no HG.out (Below.refl _ _)
end Go.Proofs.YtkpejdkffkhekaaGreatDoor
