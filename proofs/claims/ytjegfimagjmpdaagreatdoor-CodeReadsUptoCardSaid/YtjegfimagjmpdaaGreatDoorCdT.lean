/- The document's 'Sound'. Printed by gen_cdt.py out of XCdS.lp. Conditions: the code fits what comes in. -/
import Derived.Test.YtjegfimagjmpdaaGreatDoorCdS
import Derived.Test.YtjegfimagjmpdaaGreatDoorTx
set_option maxRecDepth 100000
namespace Go.Proofs.YtjegfimagjmpdaaGreatDoor
open Go.ChangeShapes Go.WideShapes Go.ChangeAt Go.RowKit
theorem whole_fix (e : Int) (w : World) : Calls Tryz.prog 45 #[.int .i64 e] w fun r w' => r = .returned (.agg #[.int .i64 e, .int .i64 (-1), .int .i64 (-1)]) ∧ Below w.heap.size w w' := by
  go_enter Tryz.func45, Tryz.ntmps45
  go_wp2_with fail
  refine bodyPost_ret (v := .agg #[.int .i64 e, .int .i64 (-1), .int .i64 (-1)]) (by simp [results, Tryz.results45, go_sem]) rfl ⟨rfl, al _⟩
theorem headR_cases (k : Nat) (nm : List UInt8) (pa sl ca : Int) (ni : Nat) :
    (nmB nm = false ∧ headN k nm pa sl ca ni = 7) ∨
    (nmB nm = true ∧ pa < 0 ∧ headN k nm pa sl ca ni = 14) ∨
    (nmB nm = true ∧ 0 ≤ pa ∧ 4 < pa ∧ headN k nm pa sl ca ni = 14) ∨
    (nmB nm = true ∧ 0 ≤ pa ∧ pa ≤ 4 ∧ sl < pa ∧ headN k nm pa sl ca ni = 14) ∨
    (nmB nm = true ∧ 0 ≤ pa ∧ pa ≤ 4 ∧ pa ≤ sl ∧ 3000 < sl ∧ headN k nm pa sl ca ni = 14) ∨
    (nmB nm = true ∧ 0 ≤ pa ∧ pa ≤ 4 ∧ pa ≤ sl ∧ sl ≤ 3000 ∧ ca < 0 ∧ headN k nm pa sl ca ni = 14) ∨
    (nmB nm = true ∧ 0 ≤ pa ∧ pa ≤ 4 ∧ pa ≤ sl ∧ sl ≤ 3000 ∧ 0 ≤ ca ∧ 200 < ca ∧ headN k nm pa sl ca ni = 14) ∨
    (nmB nm = true ∧ 0 ≤ pa ∧ pa ≤ 4 ∧ pa ≤ sl ∧ sl ≤ 3000 ∧ 0 ≤ ca ∧ ca ≤ 200 ∧
      ((((k : Int) == 0) = true ∧ 0 < pa + ca ∧ headN k nm pa sl ca ni = 12) ∨
       (((((k : Int) == 0) = true ∧ decide (0 < pa + ca) = false) ∨ ((k : Int) == 0) = false) ∧
         ((((ni : Int) == 0) = true ∧ headN k nm pa sl ca ni = 16) ∨ (((ni : Int) == 0) = false ∧ (20000 : Int) < (ni : Int) ∧ headN k nm pa sl ca ni = 15) ∨ (((ni : Int) == 0) = false ∧ ¬ (20000 : Int) < (ni : Int) ∧ headN k nm pa sl ca ni = 0))))) := by
  rcases head_cases k nm pa sl ca ni with ⟨h1, he⟩ | ⟨h1, h2, he⟩ | ⟨h1, h2, h3, he⟩ | ⟨h1, h2, h3, h4, he⟩ | ⟨h1, h2, h3, h4, h⟩
  · exact .inl ⟨h1, he⟩
  · right
    rcases within_cases pa 0 4 with ⟨a, b, hw⟩ | ⟨a, b, hw⟩ | ⟨a, hw⟩
    · rw [hw] at h2; cases h2
    · exact .inr (.inl ⟨h1, a, by simp at b; omega, he⟩)
    · exact .inl ⟨h1, by simp at a; omega, he⟩
  · obtain ⟨p1, p2⟩ := within_ge h2
    right; right; right
    rcases within_cases sl pa 3000 with ⟨a, b, hw⟩ | ⟨a, b, hw⟩ | ⟨a, hw⟩
    · rw [hw] at h3; cases h3
    · exact .inr (.inl ⟨h1, p1, p2, a, by simp at b; omega, he⟩)
    · exact .inl ⟨h1, p1, p2, by simp at a; omega, he⟩
  · obtain ⟨p1, p2⟩ := within_ge h2
    obtain ⟨s1, s2⟩ := within_ge h3
    right; right; right; right; right
    rcases within_cases ca 0 200 with ⟨a, b, hw⟩ | ⟨a, b, hw⟩ | ⟨a, hw⟩
    · rw [hw] at h4; cases h4
    · exact .inr (.inl ⟨h1, p1, p2, s1, s2, a, by simp at b; omega, he⟩)
    · exact .inl ⟨h1, p1, p2, s1, s2, by simp at a; omega, he⟩
  · obtain ⟨p1, p2⟩ := within_ge h2
    obtain ⟨s1, s2⟩ := within_ge h3
    obtain ⟨c1, c2⟩ := within_ge h4
    right; right; right; right; right; right; right
    refine ⟨h1, p1, p2, s1, s2, c1, c2, ?_⟩
    rcases h with ⟨g1, g2, he⟩ | ⟨g1, g2, g3, he⟩ | ⟨⟨g1, g2, g3⟩ | g1, h⟩
    · exact .inl ⟨g1, by omega, he⟩
    · exact .inl ⟨g1, by simp at g2; omega, he⟩
    · exact .inr ⟨.inl ⟨g1, by simp at g2 g3 ⊢; omega⟩, h⟩
    · exact .inr ⟨.inr g1, h⟩
/-- The function's cells. -/
structure FX (IA : Option Addr) (ic : Nat) (nm : ByteArray) (pa sl ca : Int) (ni gf : Nat) (w : World) : Prop where
  zf : gf < w.heap.size
  q0 : w.cell? ⟨gf, 0, none⟩ = some (.string nm)
  q1 : w.cell? ⟨gf, 1, none⟩ = some (.int .i64 pa)
  q2 : w.cell? ⟨gf, 2, none⟩ = some (.int .i64 sl)
  q3 : w.cell? ⟨gf, 3, none⟩ = some (.int .i64 ca)
  q4 : w.cell? ⟨gf, 4, none⟩ = some (.slice IA ni ic)
theorem FX.into {IA : Option Addr} {ic : Nat} {nm : ByteArray} {pa sl ca : Int} {ni gf : Nat} {w w' : World} (h : FX IA ic nm pa sl ca ni gf w) (hb : Below w.heap.size w w') : FX IA ic nm pa sl ca ni gf w' := by
  have l := h.zf
  exact ⟨Nat.lt_of_lt_of_le l hb.size, (hb.cell (p := ⟨gf, _, none⟩) l).trans h.q0, (hb.cell (p := ⟨gf, _, none⟩) l).trans h.q1, (hb.cell (p := ⟨gf, _, none⟩) l).trans h.q2, (hb.cell (p := ⟨gf, _, none⟩) l).trans h.q3, (hb.cell (p := ⟨gf, _, none⟩) l).trans h.q4⟩
section
variable (FA TA : Option Addr) (fc tc : Nat) (K : KK)
set_option maxHeartbeats 8000000 in
theorem refSound_any (nf nt : Nat) (w : World) (hnf : nf = K.funcs.length) (hnt : nt = K.texts.length) (hk : KR w w.heap.size FA TA K) : Calls Tryz.prog 29 #[.agg #[.slice FA nf fc, .slice TA nt tc]] w fun e w' => e = .returned (fixV (soundV K)) ∧ Below w.heap.size w w' := by
  have HNF := Lib.hid hnf
  have HNT := Lib.hid hnt
  have HK := Lib.hid hk
  clear hnf hnt hk
  by_cases h0 : nf = 0
  · have HV := Lib.hid (show soundV K = (16, -1, -1) by unfold soundV; rw [if_pos (by rw [← HNF.out]; exact h0)])
    have b0 : (nf : Int) < 1 := by omega
    clear h0
    go_enter Tryz.func29, Tryz.ntmps29
    go_wp2_with fail
    have HSX := Lib.hid (SX.start (FA := FA) (TA := TA) (nf := nf) (nt := nt) (fc := fc) (tc := tc) (w := w) (ta := 25) (tb := 55))
    refine (whole_fix _ _).mono ?_
    rintro e w1 ⟨rfl, hb⟩
    obtain ⟨z, p0, p1, r0, r1, r2, z0, z1, z2⟩ := HSX.out.into hb
    have HB := Lib.hid (sq (sq (al _) (al _)) hb)
    clear hb HSX
    go_wp2_with fail
    refine bodyPost_ret (v := fixV (soundV K)) (by rw [HV.out]; simp [results, Tryz.results29, go_sem, fixV, r0, r1, r2]) rfl ⟨rfl, below_res HB.out _ _ _⟩
  · have b0 : ¬ (nf : Int) < 1 := by omega
    by_cases h1 : 400 < nf ∨ 2000 < nt
    · have HV := Lib.hid (show soundV K = (15, -1, -1) by unfold soundV; rw [if_neg (by rw [← HNF.out]; exact h0), if_pos (by rw [← HNF.out, ← HNT.out]; exact h1)])
      by_cases h2 : 400 < nf
      · have h2i : (400 : Int) < (nf : Int) := by omega
        clear h0 h1 h2
        go_enter Tryz.func29, Tryz.ntmps29
        go_wp2_with fail
        have HSX := Lib.hid (SX.start (FA := FA) (TA := TA) (nf := nf) (nt := nt) (fc := fc) (tc := tc) (w := w) (ta := 25) (tb := 55))
        refine (whole_fix _ _).mono ?_
        rintro e w1 ⟨rfl, hb⟩
        obtain ⟨z, p0, p1, r0, r1, r2, z0, z1, z2⟩ := HSX.out.into hb
        have HB := Lib.hid (sq (sq (al _) (al _)) hb)
        clear hb HSX
        go_wp2_with fail
        refine bodyPost_ret (v := fixV (soundV K)) (by rw [HV.out]; simp [results, Tryz.results29, go_sem, fixV, r0, r1, r2]) rfl ⟨rfl, below_res HB.out _ _ _⟩
      · have h2i : ¬ (400 : Int) < (nf : Int) := by omega
        have h3i : (2000 : Int) < (nt : Int) := by omega
        clear h0 h1 h2
        go_enter Tryz.func29, Tryz.ntmps29
        go_wp2_with fail
        have HSX := Lib.hid (SX.start (FA := FA) (TA := TA) (nf := nf) (nt := nt) (fc := fc) (tc := tc) (w := w) (ta := 25) (tb := 55))
        refine (whole_fix _ _).mono ?_
        rintro e w1 ⟨rfl, hb⟩
        obtain ⟨z, p0, p1, r0, r1, r2, z0, z1, z2⟩ := HSX.out.into hb
        have HB := Lib.hid (sq (sq (al _) (al _)) hb)
        clear hb HSX
        go_wp2_with fail
        refine bodyPost_ret (v := fixV (soundV K)) (by rw [HV.out]; simp [results, Tryz.results29, go_sem, fixV, r0, r1, r2]) rfl ⟨rfl, below_res HB.out _ _ _⟩
    · have h2i : ¬ (400 : Int) < (nf : Int) := by omega
      have h3i : ¬ (2000 : Int) < (nt : Int) := by omega
      have H0 := Lib.hid (show ¬ K.funcs.length = 0 by rw [← HNF.out]; exact h0)
      have H1 := Lib.hid (show ¬ (400 < K.funcs.length ∨ 2000 < K.texts.length) by rw [← HNF.out, ← HNT.out]; exact h1)
      clear h0 h1
      go_enter Tryz.func29, Tryz.ntmps29
      go_wp2_with fail
      generalize hw0 : World.alloc _ (Obj.cells #[Value.int .i64 0, Value.int .i64 0, Value.int .i64 0] _) = w0
      have HSX := Lib.hid (show SX FA TA nf nt fc tc w.heap.size w0 by subst hw0; exact SX.start)
      have HB0 := Lib.hid (show Below w.heap.size w w0 by subst hw0; exact sq (al _) (al _))
      have HLE := Lib.hid HB0.out.size
      clear hw0
      go_loopw [37] (fun v wr => ∃ i : Nat, v = .int .i64 (i : Int) ∧ i ≤ nt ∧ Hid (∀ j, j < i → textBad K j = none) ∧ Below w0.heap.size w0 wr) (fun v _ => nt - (intOf v).toNat)
      case atStart => exact ⟨0, rfl, by omega, Lib.hid (fun j hj => by omega), Below.refl _ _⟩
      case round =>
        obtain ⟨i, rfl, hi, HOK, hbel⟩ := hrel
        have HBE := Lib.hid hbel
        have HSR := Lib.hid (HSX.out.into hbel)
        clear hbel
        by_cases hlt : i < nt
        · have hit : i < K.texts.length := by have := HNT.out; omega
          have hti := List.getElem?_eq_getElem hit
          have HBIG := Lib.hid (HK.out.big K.texts[i] (List.getElem_mem _))
          have HTB := Lib.hid (textBad_of hti)
          obtain ⟨tb, toff, rfl, htb, htc⟩ := text_at (HK.out.into (HB0.out.trans (HBE.out.mono HLE.out))).tx hit hti
          generalize K.texts[i] = s at *
          have hlti : (i : Int) < (nt : Int) := by omega
          have HIT := Lib.hid hit
          clear hti hit
          go_wp2_with fail
          refine (refQuote_any s HBIG.out _).mono ?_
          rintro e w2 ⟨rfl, nq, hw2⟩
          have hb2 : Below wr.heap.size wr w2 := by rw [hw2]; exact dr (Below.refl _ _) nq
          clear hw2
          rw [quoV_eq]
          have HB2 := Lib.hid (HBE.out.trans (hb2.mono HBE.out.size))
          have HS2 := Lib.hid (HSR.out.into hb2)
          clear hb2
          by_cases he : quoE s = 0
          · have be : (quoE s != 0) = false := by simpa using he
            have HOK2 := Lib.hid (show ∀ j, j < i + 1 → textBad K j = none from fun j hj => by
              rcases Nat.lt_or_ge j i with h3 | h3
              · exact HOK.out j h3
              · obtain rfl : j = i := by omega
                rw [HTB.out, if_pos he])
            clear he
            generalize quoE s = qe at *
            generalize quoT s = qt at *
            go_wp2_with fail
            go_roundw
            case rel => exact ⟨i + 1, by go_num, by omega, HOK2, HB2.out⟩
            case measure => simp [intOf]; omega
          · have be : (quoE s != 0) = true := by simpa using he
            have HV := Lib.hid (sound_text H0.out H1.out HIT.out HOK.out (HTB.out.trans (if_neg he)))
            clear he
            generalize quoE s = qe at *
            generalize quoT s = qt at *
            obtain ⟨z, p0, p1, r0, r1, r2, z0, z1, z2⟩ := HS2.out
            go_wp2_with fail
            refine bodyPost_ret (v := fixV (soundV K)) (by rw [HV.out]; simp [results, Tryz.results29, go_sem, fixV, r0, r1, r2]) rfl ⟨rfl, below_res (HB0.out.trans (HB2.out.mono HLE.out)) _ _ _⟩
        · obtain rfl : i = nt := by omega
          have HT := Lib.hid (show ∀ j < K.texts.length, textBad K j = none from fun j hj => HOK.out j (by have := HNT.out; omega))
          obtain ⟨z, p0, p1, r0, r1, r2, z0, z1, z2⟩ := HSR.out
          go_wp2_with fail
          have HBT := Lib.hid (HB0.out.trans (HBE.out.mono HLE.out))
          have HST := HSR
          clear HOK HBE HSR hlt hi HSX HB0 HLE z p0 p1 r0 r1 r2 z0 z1 z2
          have HLT := Lib.hid HBT.out.size
          obtain ⟨wt, rfl⟩ : ∃ wt : World, wt = wr := ⟨_, rfl⟩
          go_loopw [55] (fun v wq => ∃ k : Nat, v = .int .i64 (k : Int) ∧ k ≤ nf ∧ Hid (∀ j, j < k → fnsBad K j = none) ∧ Below wt.heap.size wt wq) (fun v _ => nf - (intOf v).toNat)
          case atStart => exact ⟨0, rfl, by omega, Lib.hid (fun j hj => by omega), Below.refl _ _⟩
          case round =>
            obtain ⟨k, rfl, hkn, HOK, hbel⟩ := hrel
            obtain ⟨wo, rfl⟩ : ∃ wo : World, wo = wr := ⟨_, rfl⟩
            have HBE := Lib.hid hbel
            have HSR := Lib.hid (HST.out.into hbel)
            have HBW := Lib.hid (HBT.out.trans (hbel.mono HLT.out))
            have HKW := Lib.hid (HK.out.into HBW.out)
            clear hbel
            by_cases hlt : k < nf
            · have hkt : k < K.funcs.length := by have := HNF.out; omega
              have HFK := Lib.hid (List.getElem?_eq_getElem hkt)
              have HIL := Lib.hid (HK.out.il K.funcs[k] (List.getElem_mem _))
              obtain ⟨⟨fb, foff, IA, ic, hFA, hfb, f0, f1, f2, f3, f4, hic, hicm, ess, hri, hai⟩, _⟩ := HKW.out.fn k _ HFK.out
              subst hFA
              have HFB := Lib.hid (Nat.lt_of_lt_of_le hfb HBW.out.size)
              have hfbl : fb < wo.heap.size := HFB.out
              have hlti : (k : Int) < (nf : Int) := by omega
              have HKT := Lib.hid hkt
              have HRI := Lib.hid hri
              have HAI := Lib.hid hai
              have HHV := Lib.hid (show headV k K.funcs[k] = headN k K.funcs[k].name.data.toList K.funcs[k].params K.funcs[k].slots K.funcs[k].caps K.funcs[k].ins.length from rfl)
              have HNS := Lib.hid (HK.out.nms K.funcs[k] (List.getElem_mem _))
              generalize hf : K.funcs[k] = f at *
              obtain ⟨ni, hni⟩ : ∃ ni, ni = f.ins.length := ⟨_, rfl⟩
              rw [← hni] at f4 HHV HIL hic
              have HNI := Lib.hid hni
              have HX := Lib.hid (fun h => cx_ok (k := k) (f := f) h HK.out)
              have HINS := Lib.hid (fun (x : II) W hx hc => insWrong_any (some ⟨fb, foff, none⟩) TA IA fc tc ic f.name f.params ⟨nf, i, ni, f.slots, f.caps, fun n => ((K.funcs[n]?).map FF.caps).getD 0⟩ x.o x.a x.b x.c x.d x.e W hx hc)
              unfold codeV fnV insVal at HINS
              simp only at HINS
              clear hkt hri hai hni hf hfb hic hicm
              obtain ⟨z, p0, p1, r0, r1, r2, z0, z1, z2⟩ := HSR.out
              go_wp2_with fail
              refine (nameRight_any f.name HNS.out _).mono ?_
              rintro e w2 ⟨rfl, hb2⟩
              have kb := boxed1 hb2
              have q0 : w2.cell? ⟨wo.heap.size, 0, none⟩ = some (.string f.name) := kb 0 _ rfl
              have q1 : w2.cell? ⟨wo.heap.size, 1, none⟩ = some (.int .i64 f.params) := kb 1 _ rfl
              have q2 : w2.cell? ⟨wo.heap.size, 2, none⟩ = some (.int .i64 f.slots) := kb 2 _ rfl
              have q3 : w2.cell? ⟨wo.heap.size, 3, none⟩ = some (.int .i64 f.caps) := kb 3 _ rfl
              have q4 : w2.cell? ⟨wo.heap.size, 4, none⟩ = some (.slice IA ni ic) := kb 4 _ rfl
              have HZF := Lib.hid (show wo.heap.size < w2.heap.size by have := hb2.size; simp at this; omega)
              have hzf : wo.heap.size < w2.heap.size := HZF.out
              have HB2 := Lib.hid (sq (al _) hb2)
              have HS2 := Lib.hid (HSR.out.into HB2.out)
              clear z p0 p1 r0 r1 r2 z0 z1 z2 hb2 kb f0 f1 f2 f3 f4
              obtain ⟨z, p0, p1, r0, r1, r2, z0, z1, z2⟩ := HS2.out
              have hcs := headR_cases k f.name.data.toList f.params f.slots f.caps ni
              cases hnm : nmB f.name.data.toList with
              | false =>
                have he : headN k f.name.data.toList f.params f.slots f.caps ni = 7 := by unfold headN; rw [if_pos hnm]
                have HNM := Lib.hid hnm
                clear hnm hcs
                have HV := Lib.hid (sound_fn H0.out H1.out HT.out HKT.out HOK.out (fns_head HFK.out (by rw [HHV.out, he]; decide)))
                rw [HHV.out, he] at HV
                clear he
                go_wp2_with fail
                refine bodyPost_ret (v := fixV (soundV K)) (by rw [HV.out]; simp [results, Tryz.results29, go_sem, fixV, r0, r1, r2]) rfl ⟨rfl, below_res (HBW.out.trans (HB2.out.mono HBW.out.size)) _ _ _⟩
              | true =>
                have HNM := Lib.hid hnm
                rcases hcs with ⟨hx, _⟩ | ⟨_, g1, he⟩ | ⟨_, g1, g2, he⟩ | ⟨_, g1, g2, g3, he⟩ | ⟨_, g1, g2, g3, g4, he⟩ | ⟨_, g1, g2, g3, g4, g5, he⟩ | ⟨_, g1, g2, g3, g4, g5, g6, he⟩ | ⟨_, g1, g2, g3, g4, g5, g6, ⟨g7, g8, he⟩ | ⟨⟨g7, g8⟩ | g7, ⟨g9, he⟩ | ⟨g9, g10, he⟩ | ⟨g9, g10, he⟩⟩⟩
                · rw [hnm] at hx; cases hx
                · clear hnm
                  have HV := Lib.hid (sound_fn H0.out H1.out HT.out HKT.out HOK.out (fns_head HFK.out (by rw [HHV.out, he]; decide)))
                  rw [HHV.out, he] at HV
                  clear he
                  go_wp2_with fail
                  refine bodyPost_ret (v := fixV (soundV K)) (by rw [HV.out]; simp [results, Tryz.results29, go_sem, fixV, r0, r1, r2]) rfl ⟨rfl, below_res (HBW.out.trans (HB2.out.mono HBW.out.size)) _ _ _⟩
                · clear hnm
                  have HV := Lib.hid (sound_fn H0.out H1.out HT.out HKT.out HOK.out (fns_head HFK.out (by rw [HHV.out, he]; decide)))
                  rw [HHV.out, he] at HV
                  clear he
                  go_wp2_with fail
                  refine bodyPost_ret (v := fixV (soundV K)) (by rw [HV.out]; simp [results, Tryz.results29, go_sem, fixV, r0, r1, r2]) rfl ⟨rfl, below_res (HBW.out.trans (HB2.out.mono HBW.out.size)) _ _ _⟩
                · clear hnm
                  have HV := Lib.hid (sound_fn H0.out H1.out HT.out HKT.out HOK.out (fns_head HFK.out (by rw [HHV.out, he]; decide)))
                  rw [HHV.out, he] at HV
                  clear he
                  go_wp2_with fail
                  refine bodyPost_ret (v := fixV (soundV K)) (by rw [HV.out]; simp [results, Tryz.results29, go_sem, fixV, r0, r1, r2]) rfl ⟨rfl, below_res (HBW.out.trans (HB2.out.mono HBW.out.size)) _ _ _⟩
                · clear hnm
                  have HV := Lib.hid (sound_fn H0.out H1.out HT.out HKT.out HOK.out (fns_head HFK.out (by rw [HHV.out, he]; decide)))
                  rw [HHV.out, he] at HV
                  clear he
                  go_wp2_with fail
                  refine bodyPost_ret (v := fixV (soundV K)) (by rw [HV.out]; simp [results, Tryz.results29, go_sem, fixV, r0, r1, r2]) rfl ⟨rfl, below_res (HBW.out.trans (HB2.out.mono HBW.out.size)) _ _ _⟩
                · clear hnm
                  have HV := Lib.hid (sound_fn H0.out H1.out HT.out HKT.out HOK.out (fns_head HFK.out (by rw [HHV.out, he]; decide)))
                  rw [HHV.out, he] at HV
                  clear he
                  go_wp2_with fail
                  refine bodyPost_ret (v := fixV (soundV K)) (by rw [HV.out]; simp [results, Tryz.results29, go_sem, fixV, r0, r1, r2]) rfl ⟨rfl, below_res (HBW.out.trans (HB2.out.mono HBW.out.size)) _ _ _⟩
                · clear hnm
                  have HV := Lib.hid (sound_fn H0.out H1.out HT.out HKT.out HOK.out (fns_head HFK.out (by rw [HHV.out, he]; decide)))
                  rw [HHV.out, he] at HV
                  clear he
                  go_wp2_with fail
                  refine bodyPost_ret (v := fixV (soundV K)) (by rw [HV.out]; simp [results, Tryz.results29, go_sem, fixV, r0, r1, r2]) rfl ⟨rfl, below_res (HBW.out.trans (HB2.out.mono HBW.out.size)) _ _ _⟩
                · clear hnm
                  have HV := Lib.hid (sound_fn H0.out H1.out HT.out HKT.out HOK.out (fns_head HFK.out (by rw [HHV.out, he]; decide)))
                  rw [HHV.out, he] at HV
                  clear he
                  go_wp2_with fail
                  refine bodyPost_ret (v := fixV (soundV K)) (by rw [HV.out]; simp [results, Tryz.results29, go_sem, fixV, r0, r1, r2]) rfl ⟨rfl, below_res (HBW.out.trans (HB2.out.mono HBW.out.size)) _ _ _⟩
                · clear hnm
                  have HV := Lib.hid (sound_fn H0.out H1.out HT.out HKT.out HOK.out (fns_head HFK.out (by rw [HHV.out, he]; decide)))
                  rw [HHV.out, he] at HV
                  clear he
                  go_wp2_with fail
                  refine bodyPost_ret (v := fixV (soundV K)) (by rw [HV.out]; simp [results, Tryz.results29, go_sem, fixV, r0, r1, r2]) rfl ⟨rfl, below_res (HBW.out.trans (HB2.out.mono HBW.out.size)) _ _ _⟩
                · clear hnm
                  have HV := Lib.hid (sound_fn H0.out H1.out HT.out HKT.out HOK.out (fns_head HFK.out (by rw [HHV.out, he]; decide)))
                  rw [HHV.out, he] at HV
                  clear he
                  go_wp2_with fail
                  refine bodyPost_ret (v := fixV (soundV K)) (by rw [HV.out]; simp [results, Tryz.results29, go_sem, fixV, r0, r1, r2]) rfl ⟨rfl, below_res (HBW.out.trans (HB2.out.mono HBW.out.size)) _ _ _⟩
                rotate_left
                · clear hnm
                  have HV := Lib.hid (sound_fn H0.out H1.out HT.out HKT.out HOK.out (fns_head HFK.out (by rw [HHV.out, he]; decide)))
                  rw [HHV.out, he] at HV
                  clear he
                  go_wp2_with fail
                  refine bodyPost_ret (v := fixV (soundV K)) (by rw [HV.out]; simp [results, Tryz.results29, go_sem, fixV, r0, r1, r2]) rfl ⟨rfl, below_res (HBW.out.trans (HB2.out.mono HBW.out.size)) _ _ _⟩
                · clear hnm
                  have HV := Lib.hid (sound_fn H0.out H1.out HT.out HKT.out HOK.out (fns_head HFK.out (by rw [HHV.out, he]; decide)))
                  rw [HHV.out, he] at HV
                  clear he
                  go_wp2_with fail
                  refine bodyPost_ret (v := fixV (soundV K)) (by rw [HV.out]; simp [results, Tryz.results29, go_sem, fixV, r0, r1, r2]) rfl ⟨rfl, below_res (HBW.out.trans (HB2.out.mono HBW.out.size)) _ _ _⟩
                rotate_left
                all_goals
                  have HH0 := Lib.hid (HHV.out.trans he)
                  clear he hnm
                  go_wp2_with fail
                  obtain ⟨w5, rfl⟩ : ∃ w5 : World, w5 = w2 := ⟨_, rfl⟩
                  have HJ := Lib.hid (show FX IA ic f.name f.params f.slots f.caps ni wo.heap.size w5 from ⟨hzf, q0, q1, q2, q3, q4⟩)
                  have HB5 := Lib.hid (show Below wo.heap.size wo w5 from HB2.out)
                  have HS5 := Lib.hid (show SX (some ⟨fb, foff, none⟩) TA nf i fc tc w.heap.size w5 from HS2.out)
                  clear q0 q1 q2 q3 q4 z p0 p1 r0 r1 r2 z0 z1 z2 hzf
                  have HOKH := Lib.hid (head_ok HH0.out)
                  have HL5 := Lib.hid HB5.out.size
                  have hni20 : ni ≤ 20000 := by
                    obtain ⟨_, _, _, _, _, h, _⟩ := HOKH.out
                    rwa [← HNI.out] at h
                  go_loopw [125] (fun v wq => ∃ n : Nat, v = .int .i64 (n : Int) ∧ n ≤ ni ∧ Hid (∀ j, j < n → insBad K k f j = none) ∧ Below w5.heap.size w5 wq) (fun v _ => ni - (intOf v).toNat)
                  case atStart => exact ⟨0, rfl, by omega, Lib.hid (fun j hj => by omega), Below.refl _ _⟩
                  case round =>
                    obtain ⟨n, rfl, hnn, HOKI, hbel⟩ := hrel
                    have HBQ := Lib.hid hbel
                    have HSQ := Lib.hid (HS5.out.into hbel)
                    have HJQ := Lib.hid (HJ.out.into hbel)
                    have HBRQ := Lib.hid (HB5.out.trans (hbel.mono HL5.out))
                    have HWQ := Lib.hid (HBW.out.trans (HBRQ.out.mono HBW.out.size))
                    clear hbel
                    have hri := HRI.out.keep (w' := wr) (fun p hp => HBRQ.out.cell (Nat.lt_of_lt_of_le hp HBW.out.size))
                    have hai := HAI.out.keep (w' := wr) (fun p hp => HBRQ.out.cell (Nat.lt_of_lt_of_le hp HBW.out.size))
                    by_cases hlt3 : n < ni
                    · have hnt : n < f.ins.length := by have := HNI.out; omega
                      have hx := List.getElem?_eq_getElem hnt
                      obtain ⟨ib, ioff, rfl, hib, e0, e1, e2, e3, e4, e5⟩ := ins_at hri hai rfl hx
                      have hibl : ib < wr.heap.size := Nat.lt_of_lt_of_le hib HWQ.out.size
                      have HIB := Lib.hid (insBad_of (K := K) (k := k) hx)
                      generalize f.ins[n] = x at *
                      have HIE := Lib.hid (show insE K f x = insR ⟨nf, i, ni, f.slots, f.caps, fun n => ((K.funcs[n]?).map FF.caps).getD 0⟩ x.o x.a x.b x.c x.d x.e by
                        unfold insE cxOf
                        rw [insV_insR, ← HNF.out, ← HNT.out, ← HNI.out])
                      have HC := Lib.hid (fun W (hW : Below wr.heap.size wr W) => HINS.out x W (by
                        have := HX.out HH0.out
                        unfold cxOf at this
                        rwa [← HNF.out, ← HNT.out, ← HNI.out] at this) (by
                        have := (HK.out.into (HWQ.out.trans (hW.mono HWQ.out.size))).caps (Nat.le_trans HWQ.out.size hW.size)
                        rwa [← HNF.out] at this))
                      have hlt3i : (n : Int) < (ni : Int) := by omega
                      have HNT3 := Lib.hid hnt
                      clear hri hai hx hnt hib
                      obtain ⟨x0, x1, x2, x3, x4, x5⟩ := x
                      simp only at e0 e1 e2 e3 e4 e5 HIE HC
                      obtain ⟨zf, q0, q1, q2, q3, q4⟩ := HJQ.out
                      obtain ⟨z, p0, p1, r0, r1, r2, z0, z1, z2⟩ := HSQ.out
                      have zz : w.heap.size < wr.heap.size := by omega
                      go_wp2_with fail
                      refine (HC.out _ (al _)).mono ?_
                      rintro e w7 ⟨rfl, hb7⟩
                      rw [← HIE.out]
                      have HB7 := Lib.hid (sq (al _) hb7)
                      have HS7 := Lib.hid (HSQ.out.into HB7.out)
                      clear hb7 e0 e1 e2 e3 e4 e5 z p0 p1 r0 r1 r2 z0 z1 z2 zf q0 q1 q2 q3 q4
                      by_cases hz : insE K f ⟨x0, x1, x2, x3, x4, x5⟩ = 0
                      · have bz : (insE K f ⟨x0, x1, x2, x3, x4, x5⟩ != 0) = false := by simpa using hz
                        have HOK2 := Lib.hid (show ∀ j, j < n + 1 → insBad K k f j = none from fun j hj => by
                          rcases Nat.lt_or_ge j n with h3 | h3
                          · exact HOKI.out j h3
                          · obtain rfl : j = n := by omega
                            rw [HIB.out, if_pos hz])
                        clear hz HIB HIE
                        generalize insE K f ⟨x0, x1, x2, x3, x4, x5⟩ = ie at *
                        go_wp2_with fail
                        go_roundw
                        case rel => exact ⟨n + 1, by go_num, by omega, HOK2, HBQ.out.trans (HB7.out.mono HBQ.out.size)⟩
                        case measure => simp [intOf]; omega
                      · have bz : (insE K f ⟨x0, x1, x2, x3, x4, x5⟩ != 0) = true := by simpa using hz
                        have HV := Lib.hid (sound_fn H0.out H1.out HT.out HKT.out HOK.out (fns_ins HFK.out HH0.out HNT3.out HOKI.out (HIB.out.trans (if_neg hz))))
                        clear hz HIB HIE
                        generalize insE K f ⟨x0, x1, x2, x3, x4, x5⟩ = ie at *
                        obtain ⟨z, p0, p1, r0, r1, r2, z0, z1, z2⟩ := HS7.out
                        go_wp2_with fail
                        refine bodyPost_ret (v := fixV (soundV K)) (by rw [HV.out]; simp [results, Tryz.results29, go_sem, fixV, r0, r1, r2]) rfl ⟨rfl, below_res (HWQ.out.trans (HB7.out.mono HWQ.out.size)) _ _ _⟩
                    · obtain rfl : n = ni := by omega
                      obtain ⟨_, _, _, _, hn0, hn20, _⟩ := HOKH.out
                      rw [← HNI.out] at hn0 hn20
                      have hn0i : (0 : Int) < (n : Int) := by omega
                      have hnm : n - 1 < f.ins.length := by have := HNI.out; omega
                      have hx := List.getElem?_eq_getElem hnm
                      obtain ⟨ib, ioff, rfl, hib, e0, _⟩ := ins_at hri hai rfl hx
                      have HLO := Lib.hid (lastOk_of (n := n - 1) (f := f) (by have := HNI.out; omega) hx)
                      have HFL := Lib.hid (fns_last (K := K) HFK.out HH0.out (fun j hj => HOKI.out j (by have := HNI.out; omega)))
                      rw [HLO.out, ← HNI.out] at HFL
                      generalize f.ins[n - 1] = x at *
                      obtain ⟨xo, x1, x2, x3, x4, x5⟩ := x
                      simp only at e0 HFL
                      clear hri hai hx hnm hib HLO
                      obtain ⟨zf, q0, q1, q2, q3, q4⟩ := HJQ.out
                      obtain ⟨z, p0, p1, r0, r1, r2, z0, z1, z2⟩ := HSQ.out
                      by_cases ho : xo = 26 ∨ xo = 29 ∨ xo = 30
                      · have HOK2 := Lib.hid (show ∀ j, j < k + 1 → fnsBad K j = none from fun j hj => by
                          rcases Nat.lt_or_ge j k with h3 | h3
                          · exact HOK.out j h3
                          · obtain rfl : j = k := by omega
                            rw [HFL.out, if_pos]
                            rcases ho with rfl | rfl | rfl <;> rfl)
                        rcases ho with rfl | rfl | rfl
                        all_goals
                          go_wp2_with fail
                          go_roundw
                          case rel => exact ⟨k + 1, by go_num, by omega, HOK2, HBE.out.trans (HBRQ.out.mono HBE.out.size)⟩
                          case measure => simp [intOf]; omega
                      · have b1 : (xo != 26) = true := by simp; omega
                        have b2 : (xo != 29) = true := by simp; omega
                        have b3 : (xo != 30) = true := by simp; omega
                        have HV := Lib.hid (sound_fn H0.out H1.out HT.out HKT.out HOK.out (HFL.out.trans (if_neg (by simp; omega))))
                        clear ho
                        go_wp2_with fail
                        refine bodyPost_ret (v := fixV (soundV K)) (by rw [HV.out]; simp [results, Tryz.results29, go_sem, fixV, r0, r1, r2]) rfl ⟨rfl, below_res HWQ.out _ _ _⟩
            · obtain rfl : k = nf := by omega
              have HV := Lib.hid (sound_ok H0.out H1.out HT.out (fun j hj => HOK.out j (by have := HNF.out; omega)))
              obtain ⟨z, p0, p1, r0, r1, r2, z0, z1, z2⟩ := HSR.out
              go_wp2_with fail
              refine bodyPost_ret (v := fixV (soundV K)) (by rw [HV.out]; simp [results, Tryz.results29, go_sem, fixV, r0, r1, r2]) rfl ⟨rfl, below_res HBW.out _ _ _⟩
end
end Go.Proofs.YtjegfimagjmpdaaGreatDoor
