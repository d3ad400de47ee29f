/- The law's copy of a code. Conditions: the code fits what comes in. -/
import Derived.Test.YtapbdfcihheecaaCdV
import Derived.Handy
set_option maxRecDepth 100000
namespace Go.Proofs.Ytapbdfcihheecaa
open Go.ChangeShapes Go.WideShapes Go.ChangeAt Go.RowKit
theorem info_ins : (Try.prog.info? 126).map (fun i => (i.zero, i.size, i.bytes)) = some (some (.agg #[.int .i64 0, .int .i64 0, .int .i64 0, .int .i64 0, .int .i64 0, .int .i64 0]), 6, 48) := by kernel_rfl
theorem info_fn : (Try.prog.info? 123).map (fun i => (i.zero, i.size, i.bytes)) = some (some (.agg #[.string ByteArray.empty, .int .i64 0, .int .i64 0, .int .i64 0, .slice none 0 0]), 5, 64) := by kernel_rfl
theorem str_flat : ∀ {w : World} {M : Nat → Prop} {es : List (List Value)} {T : List ByteArray}, Shp.str.all w M es T → es.flatten = T.map Value.string
  | _, _, [], [], _ => rfl
  | _, _, [], _ :: _, h => by have := h.1; simp at this
  | _, _, _ :: _, [], h => by have := h.1; simp at this
  | w, M, c :: r, x :: y, h => by
    have h0 : c = [.string x] := h.2 0 c x rfl rfl
    rw [List.flatten_cons, h0, str_flat (w := w) (M := M) (es := r) (T := y) ⟨by simpa using h.1, fun i c' x' h1 h2 => h.2 (i + 1) c' x' h1 h2⟩]
    rfl
theorem strs_oneCell (T : List ByteArray) : ∀ u ∈ T.map Value.string, u.oneCell' = true := fun u hu => by
  obtain ⟨x, _, rfl⟩ := List.mem_map.1 hu
  rfl
/-- The copy's own cells: the code's head, the result, the copy's head. -/
structure DX (FA TA : Option Addr) (nf nt fc tc g : Nat) (w : World) : Prop where
  z : g + 1 < w.heap.size
  p0 : w.cell? ⟨g, 0, none⟩ = some (.slice FA nf fc)
  p1 : w.cell? ⟨g, 1, none⟩ = some (.slice TA nt tc)
  r0 : w.cell? ⟨g + 1, 0, none⟩ = some (.slice none 0 0)
  r1 : w.cell? ⟨g + 1, 1, none⟩ = some (.slice none 0 0)
  z0 : w.frozen? ⟨g + 1, 0, none⟩ = false
  z1 : w.frozen? ⟨g + 1, 1, none⟩ = false
theorem DX.into {FA TA : Option Addr} {nf nt fc tc g B : Nat} {w w' : World} (h : DX FA TA nf nt fc tc g w) (hb : Below B w w') (hB : g + 1 < B) : DX FA TA nf nt fc tc g w' := by
  have l0 : g < B := by omega
  exact ⟨Nat.lt_of_lt_of_le h.z hb.size, (hb.cell (p := ⟨g, _, none⟩) l0).trans h.p0, (hb.cell (p := ⟨g, _, none⟩) l0).trans h.p1,
    (hb.cell (p := ⟨g + 1, _, none⟩) hB).trans h.r0, (hb.cell (p := ⟨g + 1, _, none⟩) hB).trans h.r1,
    (hb.frozen (p := ⟨g + 1, _, none⟩) hB).trans h.z0, (hb.frozen (p := ⟨g + 1, _, none⟩) hB).trans h.z1⟩
/-- The copy's head. -/
structure DD (v : Value) (TA : Option Addr) (nt tc g : Nat) (w : World) : Prop where
  z : g < w.heap.size
  d0 : w.cell? ⟨g, 0, none⟩ = some v
  d1 : w.cell? ⟨g, 1, none⟩ = some (.slice TA nt tc)
  f0 : w.frozen? ⟨g, 0, none⟩ = false
theorem DD.into {v : Value} {TA : Option Addr} {nt tc g : Nat} {w w' : World} (h : DD v TA nt tc g w) (hb : Below w.heap.size w w') : DD v TA nt tc g w' :=
  ⟨Nat.lt_of_lt_of_le h.z hb.size, (hb.cell (p := ⟨g, _, none⟩) h.z).trans h.d0, (hb.cell (p := ⟨g, _, none⟩) h.z).trans h.d1, (hb.frozen (p := ⟨g, _, none⟩) h.z).trans h.f0⟩
theorem DD.grown {v u : Value} {TA : Option Addr} {nt tc g : Nat} {w w' : World} (h : DD v TA nt tc g w) (hg : w.grownBy w' u.ownBlock) (hne : u.ownBlock ≠ some g) : DD v TA nt tc g w' := by
  have hk : w'.heap[g]? = w.heap[g]? := hg.block g h.z (fun e => hne e.symm)
  exact ⟨Nat.lt_of_lt_of_le h.z hg.size, (World.cell?_of_block (a := ⟨g, 0, none⟩) hk).trans h.d0, (World.cell?_of_block (a := ⟨g, 1, none⟩) hk).trans h.d1, (World.frozen?_of_block (a := ⟨g, 0, none⟩) hk).trans h.f0⟩
theorem DD.put {v : Value} {TA : Option Addr} {nt tc g : Nat} {w : World} (h : DD v TA nt tc g w) (v' : Value) : DD v' TA nt tc g (w.setCell ⟨g, 0, none⟩ v') :=
  ⟨by simpa using h.z, World.cell?_setCell_same _ _ _ h.d0, (World.cell?_setCell_other _ _ _ _ (fun e => by injection e with _ e _; cases e)).trans h.d1, by simpa using h.f0⟩
/-- A copy: it reads as the code. -/
def CopyPost (K : KK) (nf nt : Nat) (w : World) (e : Ending) (w' : World) : Prop :=
  ∃ FA' fc' TA' tc', e = .returned (.agg #[.slice FA' nf fc', .slice TA' nt tc']) ∧ KR w' w'.heap.size FA' TA' K ∧ Below w.heap.size w w'
set_option maxHeartbeats 4000000 in
theorem copied_any (K : KK) (FA TA : Option Addr) (fc tc : Nat) (w : World) (h : KK.sh.rd w (· < w.heap.size) [.slice FA K.funcs.length fc, .slice TA K.texts.length tc] K) (hf : K.fits) :
    Calls Try.prog 26 #[.agg #[.slice FA K.funcs.length fc, .slice TA K.texts.length tc]] w (CopyPost K K.funcs.length K.texts.length w) := by
  obtain ⟨i0, hi, hz0, hz1, hz2⟩ := info_parts info_ins
  obtain ⟨j0, hj, jz0, jz1, jz2⟩ := info_parts info_fn
  obtain ⟨s0, hs, sz0, sz1, sz2⟩ := info_parts info_str
  obtain ⟨FA1, fc1, TA1, tc1, he, ⟨⟨ess, hr, hall⟩, _⟩, ⟨est, hrt, hallt⟩, htc, htm, _⟩ := KK.elim h
  simp at he
  obtain ⟨⟨rfl, rfl⟩, rfl, rfl⟩ := he
  have HFT := Lib.hid hf
  obtain ⟨hf1, hf2, hf3, hf4⟩ := hf
  rw [str_flat hallt] at hrt
  obtain ⟨l, hl⟩ : ∃ l, l = K.funcs := ⟨_, rfl⟩
  obtain ⟨T, hT⟩ : ∃ T, T = K.texts := ⟨_, rfl⟩
  rw [← hl] at hr hall hf1 hf2 ⊢
  rw [← hT] at hrt hf3 hf4 ⊢
  have HL := Lib.hid hl
  have HT := Lib.hid hT
  have HR := Lib.hid hr
  have HA := Lib.hid hall
  have HF2 := Lib.hid hf2
  have HF4 := Lib.hid hf4
  have HRT := Lib.hid hrt
  obtain ⟨nt, hnt⟩ : ∃ nt, nt = T.length := ⟨_, rfl⟩
  rw [← hnt] at HRT hf3 ⊢
  have HNT := Lib.hid hnt
  clear hl hT hr hall hf2 hf4 hrt h hallt htc htm hnt
  have HRT2 := Lib.hid (show Rd w w.heap.size 1 TA nt (T.map Value.string) from HRT.out.rd (fun _ h => h))
  go_enter Try.func26, Try.ntmps26
  go_wp2_with (at_builtin; refine wpList_append_new _ rfl _ _ 69 rfl 9 s0 _ 1 16 Try.underlying69 hs sz0 sz1 sz2 rfl (by omega) rfl w.heap.size TA nt tc (T.map Value.string) rfl ((HRT2.out.alloc (Nat.le_refl _) _).alloc (by simp) _) (strs_oneCell _) (by omega) (by unfold maxLen; omega) ?_; intro TA2 tc2 w1 hown1 hb1)
  have HDX := Lib.hid (show DX FA TA l.length nt fc tc w.heap.size w1 from ⟨by have := hb1.size; simp at this; omega,
    (hb1.cell (p := ⟨w.heap.size, 0, none⟩) (by simp; omega)).trans (by simp [go_sem]), (hb1.cell (p := ⟨w.heap.size, 1, none⟩) (by simp; omega)).trans (by simp [go_sem]),
    (hb1.cell (p := ⟨w.heap.size + 1, 0, none⟩) (by simp)).trans (by simp [go_sem]), (hb1.cell (p := ⟨w.heap.size + 1, 1, none⟩) (by simp)).trans (by simp [go_sem]),
    (hb1.frozen (p := ⟨w.heap.size + 1, 0, none⟩) (by simp)).trans (by simp [go_sem]), (hb1.frozen (p := ⟨w.heap.size + 1, 1, none⟩) (by simp)).trans (by simp [go_sem])⟩)
  have HB1 := Lib.hid (sq (sq (al _) (al _)) hb1)
  have HDD := Lib.hid (show DD (.slice none 0 0) TA2 nt tc2 w1.heap.size (w1.alloc (.cells #[.slice none 0 0, .slice TA2 nt tc2] 71)) from ⟨by simp, by simp [go_sem], by simp [go_sem], by simp [go_sem]⟩)
  have HTX := Lib.hid ((RdM.of_own hown1).more (M' := fun b => w.heap.size + 1 < b ∧ b < w1.heap.size) (fun b h => by have := h.1; simp at this; exact ⟨by omega, h.2⟩))
  clear hown1 hb1
  go_loopw [4] (fun i wr => ∃ (k : Nat) (v : Value), k ≤ l.length ∧ i = .int .i64 (k : Int) ∧ Own FF.sh 123 wr (w1.heap.size + 1) (· < w1.heap.size + 1) v (l.take k) ∧ DD v TA2 nt tc2 w1.heap.size wr ∧ Below w1.heap.size w1 wr) (fun i _ => l.length - (intOf i).toNat)
  case atStart => exact ⟨0, .slice none 0 0, Nat.zero_le _, rfl, Own.nil, HDD.out, al _⟩
  case round =>
    obtain ⟨k, v, hk, rfl, hown, hdd, hbel⟩ := hrel
    have hzg : w.heap.size + 1 < w1.heap.size := HDX.out.z
    have HDXR := Lib.hid (HDX.out.into hbel hzg)
    have HBE := Lib.hid hbel
    have HO := Lib.hid hown
    have HDR := Lib.hid hdd
    obtain ⟨A0, c0, hv⟩ := hown.form
    have e : (List.take k l).length = k := by rw [List.length_take]; omega
    rw [e] at hv
    subst hv
    have HE := Lib.hid e
    clear hown hdd hbel e
    obtain ⟨zr, p0, p1, r0, r1, z0, z1⟩ := HDXR.out
    obtain ⟨zd, d0, d1, f0⟩ := HDR.out
    by_cases hlt : k < l.length
    · obtain ⟨b, off, cs, x, rfl, hb, hx, hrd, hcell⟩ := Shp.elem HR.out HA.out hlt rfl
      obtain ⟨A4, c4, rfl, q1, q2, q3, ⟨es, r4, a4⟩, l4, m4, _⟩ := FF.elim hrd
      have hbw : b < w1.heap.size := by omega
      have hbr : b < wr.heap.size := by omega
      have hww : ∀ o, wr.cell? ⟨b, o, none⟩ = w.cell? ⟨b, o, none⟩ := fun o => (HBE.out.cell (p := ⟨b, o, none⟩) hbw).trans (HB1.out.cell (p := ⟨b, o, none⟩) hb)
      have e0 := (hww _).trans (hcell 0 _ rfl)
      have e1 := (hww _).trans (hcell 1 _ rfl)
      have e2 := (hww _).trans (hcell 2 _ rfl)
      have e3 := (hww _).trans (hcell 3 _ rfl)
      have e4 := (hww _).trans (hcell 4 _ rfl)
      have hsz : FF.sh.size = 5 := rfl
      rw [hsz] at e0 e1 e2 e3 e4
      simp only [Nat.add_zero] at e0
      have HX := Lib.hid hx
      have hfx : x.ins.length * 48 ≤ 140737488351232 := (HF2.out x (List.mem_of_getElem? HX.out)).2.1
      have HQ1 := Lib.hid q1
      have HQ2 := Lib.hid q2
      have HQ3 := Lib.hid q3
      have HR4 := Lib.hid r4
      have HA4 := Lib.hid a4
      have HWB := Lib.hid (show w.heap.size ≤ wr.heap.size by omega)
      have HGR := Lib.hid (show w1.heap.size + 1 ≤ wr.heap.size by omega)
      have HBW := Lib.hid (show Below w.heap.size w wr from HB1.out.trans (HBE.out.mono (by omega)))
      have hlti : (k : Int) < (l.length : Int) := by omega
      clear hsz hcell hx hww hrd r4 a4 q1 q2 q3
      generalize hn : x.ins.length = n at *
      have HN := Lib.hid hn
      clear hn
      go_wp2_with (first
        | (at_builtin; refine wpList_append_new _ rfl _ _ 121 rfl 126 i0 _ 6 48 Try.underlying121 hi hz0 hz1 hz2 rfl (by omega) rfl w.heap.size A4 n c4 es.flatten rfl ((HR4.out.rd (fun _ h => h)).below (HBW.out.alloc HWB.out _)) HA4.out.oneCell (by omega) (by unfold maxLen; omega) ?_; intro A3 c3 w3 hown3 hb3; have c0 := hb3.cell (p := ⟨wr.heap.size, 0, none⟩) (by go_size); have c1 := hb3.cell (p := ⟨wr.heap.size, 1, none⟩) (by go_size); have c2 := hb3.cell (p := ⟨wr.heap.size, 2, none⟩) (by go_size); have c3 := hb3.cell (p := ⟨wr.heap.size, 3, none⟩) (by go_size); have c4 := hb3.cell (p := ⟨wr.heap.size, 4, none⟩) (by go_size); (try simp at c0 c1 c2 c3 c4); have f0 := hb3.frozen (p := ⟨wr.heap.size, 0, none⟩) (by go_size); have f1 := hb3.frozen (p := ⟨wr.heap.size, 1, none⟩) (by go_size); have f2 := hb3.frozen (p := ⟨wr.heap.size, 2, none⟩) (by go_size); have f3 := hb3.frozen (p := ⟨wr.heap.size, 3, none⟩) (by go_size); have f4 := hb3.frozen (p := ⟨wr.heap.size, 4, none⟩) (by go_size); (try simp at f0 f1 f2 f3 f4); have hs3 := hb3.size; simp at hs3; obtain ⟨zd3, d03, d13, f03⟩ := HDR.out.into (sq (al _) hb3))
        | (at_builtin; refine wpList_append_Own (S := FF.sh) rfl _ _ 68 rfl (w1.heap.size + 1) 123 j0 _ 64 Try.underlying68 hj jz0 jz1 jz2 rfl (by show 0 < 5; omega) (· < w1.heap.size + 1) _ _ rfl (HO.out.fresh (((sq (al _) hb3).setCell (Nat.le_refl _) _).alloc (by simp; omega) _) (FF.intro (v := x) HQ1.out HQ2.out HQ3.out (HN.out ▸ (RdM.of_own hown3).put (by simp)) HA4.out (HN.out ▸ own_cap hown3)) (fun _ h => Nat.lt_of_lt_of_le h HGR.out)).1 _ _ 1 1 _ _ [x] rfl (Rd.one _ _ _ 5 rfl _ (by simp)) (by simp [HN.out]) rfl (HO.out.fresh (((sq (al _) hb3).setCell (Nat.le_refl _) _).alloc (by simp; omega) _) (FF.intro (v := x) HQ1.out HQ2.out HQ3.out (HN.out ▸ (RdM.of_own hown3).put (by simp)) HA4.out (HN.out ▸ own_cap hown3)) (fun _ h => Nat.lt_of_lt_of_le h HGR.out)).2 (by rw [HE.out]; unfold maxLen; omega) (by rw [HE.out]; omega) (Nat.le_trans HGR.out (Nat.le_trans (sq (al _) hb3).size (by simp))) ?_; intro A5 c5 w5 hown5 hgrow5 _; have HD5 := Lib.hid ((HDR.out.into (((sq (al _) hb3).setCell (Nat.le_refl _) _).alloc (by simp; omega) _)).grown hgrow5 (fun e => by have := (HO.out.ownlt e).1; omega)); obtain ⟨zd5, d05, d15, f05⟩ := HD5.out)
        | fail "no")
      have HBW5 := Lib.hid (HBE.out.trans ((((sq (al _) hb3).setCell (Nat.le_refl _) _).alloc (by simp; omega) _).mono HBE.out.size) |>.grown hgrow5 (by simp; omega) (fun q hq => by have := (HO.out.ownlt hq).1; omega))
      go_roundw
      case rel =>
        refine ⟨k + 1, .slice A5 (k + 1) c5, by omega, by go_num, ?_, HD5.out.put _, HBW5.out.setCell (Nat.le_refl _) _⟩
        rw [HE.out] at hown5
        have hk5 := hown5.keep (w' := w5.setCell ⟨w1.heap.size, 0, none⟩ (.slice A5 (k + 1) c5)) (by simp) (fun q _ hE => Below.heap_setCell _ _ _ _ (by show q ≠ w1.heap.size; omega)) (fun q hq hE => by have := (hown5.ownlt hq).1; omega)
        rw [List.take_add_one, HX.out]
        exact hk5
      case measure => simp [intOf]; omega
    · obtain rfl : k = l.length := by omega
      rw [List.take_of_length_le (Nat.le_refl _)] at HO HE
      go_wp2_with fail
      have hbf : Below w.heap.size w ((wr.setCell ⟨w.heap.size + 1, 0, none⟩ (.slice A0 l.length c0)).setCell ⟨w.heap.size + 1, 1, none⟩ (.slice TA2 nt tc2)) := ((HB1.out.trans (HBE.out.mono (by omega))).setCell (p := ⟨w.heap.size + 1, 0, none⟩) (Nat.le_succ _) _).setCell (p := ⟨w.heap.size + 1, 1, none⟩) (Nat.le_succ _) _
      have hkb : ∀ q, q ≠ w.heap.size + 1 → ((wr.setCell ⟨w.heap.size + 1, 0, none⟩ (.slice A0 l.length c0)).setCell ⟨w.heap.size + 1, 1, none⟩ (.slice TA2 nt tc2)).heap[q]? = wr.heap[q]? := fun q hq => by rw [Below.heap_setCell _ _ _ _ hq, Below.heap_setCell _ _ _ _ hq]
      refine bodyPost_ret (v := .agg #[.slice A0 l.length c0, .slice TA2 nt tc2]) (by simp [results, Try.results26, go_sem, r0, r1]) rfl ⟨A0, c0, TA2, tc2, rfl, ?_, hbf⟩
      generalize ((wr.setCell ⟨w.heap.size + 1, 0, none⟩ (.slice A0 l.length c0)).setCell ⟨w.heap.size + 1, 1, none⟩ (.slice TA2 nt tc2)) = wf at *
      have hsz : wr.heap.size ≤ wf.heap.size := by
        rcases Nat.lt_or_ge wf.heap.size wr.heap.size with h | h
        · exfalso
          have := hkb (wr.heap.size - 1) (by omega)
          rw [Array.getElem?_eq_none (by omega), Array.getElem?_eq_getElem (by omega)] at this
          cases this
        · exact h
      obtain ⟨A9, c9, ess9, h9, _, _, _, hr9, ha9⟩ := (HO.out.keep (w' := wf) hsz (fun q _ hE => hkb q (by omega)) (fun q hq hE => by have := (HO.out.ownlt hq).1; omega)).read
      simp at h9
      obtain ⟨rfl, rfl⟩ := h9
      refine ⟨fun j f hf => KK.fn hr9 ha9 rfl (HL.out ▸ hf), ?_, by rw [← HT.out]; exact HF4.out, fun f hm => (HF2.out f (HL.out ▸ hm)).1, by rw [← HL.out]; omega, by rw [← HT.out, ← HNT.out]; omega, fun f hm => by have := (HF2.out f (HL.out ▸ hm)).2.1; omega⟩
      rw [← HT.out, ← HNT.out]
      exact ((HTX.out.keep (fun p hp => HBE.out.cell hp.2)).keep (w' := wf) (fun p hp => World.cell?_of_block (hkb p.block (by have := hp.1; omega)))).rd (fun b hb => by omega)
end Go.Proofs.Ytapbdfcihheecaa
