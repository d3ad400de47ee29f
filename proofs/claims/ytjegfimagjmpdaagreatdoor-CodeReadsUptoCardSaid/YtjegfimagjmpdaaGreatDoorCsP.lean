/- 'code.Show'. Conditions: the code fits what comes in. -/
import Derived.Test.YtjegfimagjmpdaaGreatDoorCsB
set_option maxRecDepth 100000
namespace Go.Proofs.YtjegfimagjmpdaaGreatDoor
open Go.ChangeShapes Go.WideShapes Go.ChangeAt Go.RowKit
/-- What 'Show' answers. -/
def ShowOne (K : KK) (s : Int) (w : World) (e : Ending) (w' : World) : Prop := e = .returned (.tuple #[.string ⟨(if s = 0 then showC K else []).toArray⟩, .int .i64 s]) ∧ Below w.heap.size w w'
section
variable (FA TA : Option Addr) (fc tc : Nat) (K : KK)
set_option maxHeartbeats 8000000 in
theorem codeShow_any (nf nt : Nat) (w : World) (hnf : nf = K.funcs.length) (hnt : nt = K.texts.length) (hk : KR w w.heap.size FA TA K) : Calls Tryz.prog 9 #[.agg #[.slice FA nf fc, .slice TA nt tc]] w (ShowOne K (soundV K).1 w) := by
  have HNF := Lib.hid hnf
  have HNT := Lib.hid hnt
  have HK := Lib.hid hk
  have HSD := Lib.hid (fun W (hW : Below w.heap.size w W) => codeSound_any FA TA fc tc K nf nt W HNF.out HNT.out ((HK.out.into hW).more hW.size))
  have HSN := Lib.hid (fun h => Snd.of (K := K) h)
  clear hnf hnt hk
  generalize soundV K = sv at *
  obtain ⟨s0, s1, s2⟩ := sv
  unfold fixV at HSD
  simp only at HSD HSN ⊢
  by_cases h0 : s0 = 0
  · have b0 : (s0 != 0) = false := by simpa using h0
    have H0 := Lib.hid h0
    have HS := Lib.hid (HSN.out h0)
    have HL := Lib.hid (HK.out.lenS (HSN.out h0))
    have hnf4 : nf ≤ 400 := by have := HNF.out; have := HS.out.nf; omega
    have hnt2 : nt ≤ 2000 := by have := HNT.out; have := HS.out.nt; omega
    clear h0 HSN
    go_enter Tryz.func9, Tryz.ntmps9
    go_wp2_with fail
    refine (HSD.out _ (al _)).mono ?_
    rintro e w1 ⟨rfl, hb1⟩
    have hbl := (hb1.block w.heap.size (by simp)).trans (heap_alloc_new w _)
    have HB1 := Lib.hid (sq (al _) hb1)
    have c1 : w1.cell? ⟨w.heap.size, 1, none⟩ = some (.slice TA nt tc) := by rw [Lib.cell_of_heap hbl]; rfl
    have zz : w.heap.size < w1.heap.size := (Array.getElem?_eq_some_iff.1 hbl).1
    have HBL := Lib.hid hbl
    clear hb1 HSD hbl
    go_wp2_with fail
    generalize hw2 : World.alloc (w1.alloc _) _ = w2
    have HP2 := Lib.hid (show PB w (w1.heap.size + 1) #[.slice FA nf fc, .slice TA nt tc] (showT K 0) w2 by
      subst hw2
      have h := Lib.fresh_isBuilder 60 5 (w1.alloc (.cells #[.int .i64 s0, .int .i64 s1, .int .i64 s2] 55))
      have e : (w1.alloc (.cells #[.int .i64 s0, .int .i64 s1, .int .i64 s2] 55)).heap.size = w1.heap.size + 1 := by simp
      rw [e] at h
      exact ⟨h, by rw [Lib.alloc_old _ _ _ (by simp; omega), Lib.alloc_old _ _ _ zz]; exact HBL.out, (HB1.out.alloc (by omega) _).alloc (by simp; omega) _, by omega, by simp⟩)
    clear hw2 c1 HBL HB1
    generalize hgw : w1.heap.size + 1 = g at *
    clear hgw zz
    go_loopw [26] (fun v wr => ∃ i : Nat, v = .int .i64 (i : Int) ∧ i ≤ nt ∧ PB w g #[.slice FA nf fc, .slice TA nt tc] (showT K i) wr) (fun v _ => nt - (intOf v).toNat)
    case atStart => exact ⟨0, rfl, by omega, HP2.out⟩
    case round =>
      obtain ⟨i, rfl, hint, hps⟩ := hrel
      have HPR := Lib.hid hps
      have hgs := hps.gs
      clear hps
      by_cases hlt : i < nt
      · have hit : i < K.texts.length := by have := HNT.out; omega
        have hti := List.getElem?_eq_getElem hit
        obtain ⟨tb, toff, rfl, htb, htc⟩ := text_at (HK.out.into HPR.out.bel).tx hit hti
        have HST := Lib.hid (showT_step hti)
        have HLN := Lib.hid (showT_len HL.out HS.out.nt i)
        have HQE := Lib.hid (HS.out.tx _ (List.getElem_mem hit))
        have HBIG := Lib.hid (HK.out.big _ (List.getElem_mem hit))
        have hlti : (i : Int) < (nt : Int) := by omega
        generalize K.texts[i] = s at *
        clear hti hit
        have HQT := Lib.hid (show txS s = [116, 101, 120, 116, 32] ++ (quoT s).data.toList ++ [10] from rfl)
        have hql := quoT_len HQE.out
        go_wp2_with fail
        refine Calls.mono (scanQuote_any s HBIG.out _) ?_
        rintro e w3 ⟨rfl, hb3⟩
        rw [quoV_eq, HQE.out]
        have HP3 := Lib.hid (HPR.out.keep hb3)
        clear hb3
        generalize quoT s = q at *
        have hs1 : ((⟨#[116, 101, 120, 116, 32]⟩ : ByteArray) ++ q).size = 5 + q.size := by simp; rfl
        go_wp2_with fail
        refine Calls.mono (writeString_any _ _ _ _ _ HP3.out.bld (by rw [bc_len, ByteArray.size_append, hs1]; have := HLN.out; have : (⟨#[10]⟩ : ByteArray).size = 1 := rfl; omega) (Nat.le_of_lt HP3.out.gs)) ?_
        rintro e w4 ⟨rfl, hbl4, hb4, hk4, _⟩
        have HP4 := Lib.hid (HP3.out.into (L' := showT K (i + 1)) hbl4 (by rw [sc_bc, bc_app, HST.out, HQT.out]; simp) hb4 hk4)
        clear hbl4 hb4 hk4 hs1
        go_wp2_with fail
        go_roundw
        case rel => exact ⟨i + 1, by go_num, by omega, HP4.out⟩
        case measure => simp [intOf]; omega
      · obtain rfl : i = nt := by omega
        have c0 : wr.cell? ⟨w.heap.size, 0, none⟩ = some (.slice FA nf fc) := by rw [Lib.cell_of_heap HPR.out.hd]; rfl
        have HP3 := Lib.hid (HPR.out.to (L' := showF K 0) (by rw [showF_zero, ← HNT.out]))
        go_wp2_with fail
        clear c0 HPR HP2 hlt hint hgs
        obtain ⟨w3, rfl⟩ : ∃ w3 : World, w3 = wr := ⟨_, rfl⟩
        go_loopw [43] (fun v wr => ∃ k : Nat, v = .int .i64 (k : Int) ∧ k ≤ nf ∧ PB w g #[.slice FA nf fc, .slice TA i tc] (showF K k) wr) (fun v _ => nf - (intOf v).toNat)
        case atStart => exact ⟨0, rfl, by omega, HP3.out⟩
        case round =>
          obtain ⟨k, rfl, hkn, hps⟩ := hrel
          obtain ⟨wo, rfl⟩ : ∃ wo : World, wo = wr := ⟨_, rfl⟩
          have HPR := Lib.hid hps
          have hgs := hps.gs
          have HLF := Lib.hid (showF_len HL.out HS.out.nf HS.out.nt k)
          clear hps
          by_cases hlt : k < nf
          · have hkt : k < K.funcs.length := by have := HNF.out; omega
            have HFK := Lib.hid (List.getElem?_eq_getElem hkt)
            have HFM := Lib.hid (List.getElem_mem hkt)
            have HBW := Lib.hid HPR.out.bel
            obtain ⟨⟨fb, foff, IA, ic, hFA, hfb, f0, f1, f2, f3, f4, hic, hicm, ess, hri, hai⟩, hbd⟩ := (HK.out.into HBW.out).fn k _ HFK.out
            subst hFA
            have hfbl : fb < wo.heap.size := Nat.lt_of_lt_of_le hfb HBW.out.size
            have hlti : (k : Int) < (nf : Int) := by omega
            have HRI := Lib.hid hri
            have HAI := Lib.hid hai
            have HBD := Lib.hid hbd
            have HHD := Lib.hid (head_ok (HS.out.hd k _ HFK.out))
            have HSTP := Lib.hid (showF_step HFK.out)
            have HFH := Lib.hid (HL.out.fh _ HFM.out)
            have HIN := Lib.hid (HL.out.ins _ HFM.out)
            have HOPS := Lib.hid (fun i x hx => insE_op (HS.out.fn k _ HFK.out i x hx))
            generalize hf : K.funcs[k] = f at *
            obtain ⟨ni, hni⟩ : ∃ ni, ni = f.ins.length := ⟨_, rfl⟩
            rw [← hni] at f4 HRI
            have HNI := Lib.hid hni
            have hni20 : ni ≤ 20000 := by rw [hni]; exact HHD.out.2.2.2.2.2.1
            clear hkt hri hai hni hf hfb hic hicm hbd
            have hnm : f.name.size ≤ 8000 := nm_len HHD.out.1
            have HFN := Lib.hid (show fnH f = [102, 117, 110, 99, 32] ++ f.name.data.toList ++ blL [f.params, f.slots, f.caps] ++ [10] from rfl)
            have HF := Lib.hid (heap_alloc_new wo (.cells #[.string f.name, .int .i64 f.params, .int .i64 f.slots, .int .i64 f.caps, .slice IA ni ic] 44))
            have HPA := Lib.hid (HPR.out.keep (al (.cells #[.string f.name, .int .i64 f.params, .int .i64 f.slots, .int .i64 f.caps, .slice IA ni ic] 44)))
            go_wp2_with fail
            refine Calls.mono (writeString_any _ _ _ _ _ HPA.out.bld (by rw [bc_len, ByteArray.size_append]; have := HLF.out; have : (⟨#[102, 117, 110, 99, 32]⟩ : ByteArray).size = 5 := rfl; omega) (Nat.le_of_lt HPA.out.gs)) ?_
            rintro e w4 ⟨rfl, hbl4, hb4, hk4, _⟩
            have HP4 := Lib.hid (HPA.out.into (L' := showF K k ++ [102, 117, 110, 99, 32] ++ f.name.data.toList) hbl4 (by rw [sc_bc, bc_app]; simp) hb4 hk4)
            have HF4 := Lib.hid (kpt_blk hk4 HF.out (by omega) (by decide))
            clear hbl4 hb4 hk4 f0 f1 f2 f3 f4 HF HPA
            have q1 : w4.cell? ⟨wo.heap.size, 1, none⟩ = some (.int .i64 f.params) := by rw [Lib.cell_of_heap HF4.out]; rfl
            have q2 : w4.cell? ⟨wo.heap.size, 2, none⟩ = some (.int .i64 f.slots) := by rw [Lib.cell_of_heap HF4.out]; rfl
            have q3 : w4.cell? ⟨wo.heap.size, 3, none⟩ = some (.int .i64 f.caps) := by rw [Lib.cell_of_heap HF4.out]; rfl
            go_wp2_with fail
            clear q1 q2 q3
            obtain ⟨LH, hLH⟩ : ∃ LH, LH = showF K k ++ [102, 117, 110, 99, 32] ++ f.name.data.toList := ⟨_, rfl⟩
            rw [← hLH] at HP4
            have HLH := Lib.hid hLH
            have hlh : LH.length ≤ 924052005 := by
              have h1 := HLF.out
              have h3 : f.name.data.toList.length = f.name.size := rfl
              rw [hLH, List.length_append, List.length_append, h3]
              simp
              omega
            clear hLH
            have HZ3 := Lib.hid (show ∀ z ∈ [f.params, f.slots, f.caps], -9223372036854775808 ≤ z ∧ z ≤ 9223372036854775807 from by
              obtain ⟨b1, b2, b3⟩ := HBD.out
              intro z hz
              simp at hz
              rcases hz with rfl | rfl | rfl <;> assumption)
            go_loopw [58] (fun v wq => ∃ j : Nat, v = .int .i64 (j : Int) ∧ j ≤ 3 ∧ PB w g #[.slice (some ⟨fb, foff, none⟩) nf fc, .slice TA i tc] (LH ++ blL ([f.params, f.slots, f.caps].take j)) wq ∧ wq.heap[wo.heap.size]? = some (.cells #[.string f.name, .int .i64 f.params, .int .i64 f.slots, .int .i64 f.caps, .slice IA ni ic] 44 (0, 0))) (fun v _ => 3 - (intOf v).toNat)
            case atStart => exact ⟨0, rfl, by omega, HP4.out.to (by simp [blL]), HF4.out⟩
            case round =>
              obtain ⟨j, rfl, hj, hps, hfw⟩ := hrel
              have HPQ := Lib.hid hps
              have HFW := Lib.hid hfw
              have hgq := hps.gs
              clear hps hfw
              have HB3 := Lib.hid (blL_len ([f.params, f.slots, f.caps].take j) (fun z hz => HZ3.out z (List.mem_of_mem_take hz)))
              have hlk : ([f.params, f.slots, f.caps].take j).length ≤ 3 := by rw [List.length_take]; simp; omega
              by_cases hlt3 : j < 3
              · have hji : (j : Int) < 3 := by omega
                have hix := run_num3 f.params f.slots f.caps j hlt3
                have hjl : j < [f.params, f.slots, f.caps].length := by simpa using hlt3
                have hz : [f.params, f.slots, f.caps].getD j 0 = [f.params, f.slots, f.caps][j] := by simp [List.getD, List.getElem?_eq_getElem hjl]
                have HZK := Lib.hid (HZ3.out _ (List.getElem_mem hjl))
                have HSN := Lib.hid (blL_snoc [f.params, f.slots, f.caps] j (List.getElem?_eq_getElem hjl))
                rw [hz] at hix
                generalize [f.params, f.slots, f.caps][j] = z at *
                clear hz hjl
                go_wp2_with fail
                refine Calls.mono (wordText_any z HZK.out _) ?_
                rintro r w5 ⟨rfl, hb5⟩
                have HP5 := Lib.hid (HPQ.out.keep hb5)
                have HF5 := Lib.hid ((hb5.block _ (Array.getElem?_eq_some_iff.1 HFW.out).1).trans HFW.out)
                have HD := Lib.hid (show dL z = (decS z).data.toList from rfl)
                have hds : (decS z).size ≤ 20 := dL_len z HZK.out
                clear hb5
                generalize decS z = D at *
                have hs1 : ((⟨#[32]⟩ : ByteArray) ++ D).size = 1 + D.size := by simp; rfl
                have hgf : g ≠ wo.heap.size := by omega
                go_wp2_with fail
                refine Calls.mono (writeString_any _ _ _ _ _ HP5.out.bld (by rw [bc_len, hs1, List.length_append]; have := HB3.out; omega) (Nat.le_of_lt HP5.out.gs)) ?_
                rintro e w6 ⟨rfl, hbl6, hb6, hk6, _⟩
                have HP6 := Lib.hid (HP5.out.into (L' := LH ++ blL ([f.params, f.slots, f.caps].take (j + 1))) hbl6 (by rw [sc_bc, bc_app, HSN.out, HD.out]; simp) hb6 hk6)
                have HF6 := Lib.hid (kpt_blk hk6 HF5.out hgf.symm (by decide))
                clear hbl6 hb6 hk6
                go_wp2_with fail
                go_roundw
                case rel => exact ⟨j + 1, by go_num, by omega, HP6.out, HF6.out⟩
                case measure => simp [intOf]; omega
              · obtain rfl : j = 3 := by omega
                rw [show ((3 : Nat) : Int) = 3 from rfl] at *
                have hgf : g ≠ wo.heap.size := by omega
                have HT3 := Lib.hid (show LH ++ blL ([f.params, f.slots, f.caps].take 3) ++ [10] = showF K k ++ fnH f by rw [HFN.out, HLH.out]; simp [List.append_assoc])
                have hl9 : (LH ++ blL ([f.params, f.slots, f.caps].take 3)).length ≤ 924052100 := by rw [List.length_append]; have := HB3.out; omega
                go_wp2_with fail
                refine Calls.mono (writeByte_any _ _ _ _ _ HPQ.out.bld (by rw [bc_len]; omega) (Nat.le_of_lt HPQ.out.gs)) ?_
                rintro e w6 ⟨rfl, hbl6, hb6, hk6, _⟩
                have HP6 := Lib.hid (HPQ.out.into (L' := showF K k ++ fnH f) hbl6 (by rw [← HT3.out]; exact bc_app _ [10]) hb6 hk6)
                have HF6 := Lib.hid (kpt_blk hk6 HFW.out hgf.symm (by decide))
                clear hbl6 hb6 hk6 hl9
                have q4 : w6.cell? ⟨wo.heap.size, 4, none⟩ = some (.slice IA ni ic) := by rw [Lib.cell_of_heap HF6.out]; rfl
                have hfh : (showF K k ++ fnH f).length ≤ 924052070 := by rw [List.length_append]; have := HLF.out; have := HFH.out; omega
                go_wp2_with fail
                clear q4 hlk HB3 HPQ HFW
                go_loopw [70] (fun v wq => ∃ m : Nat, v = .int .i64 (m : Int) ∧ m ≤ ni ∧ PB w g #[.slice (some ⟨fb, foff, none⟩) nf fc, .slice TA i tc] (showF K k ++ fnH f ++ (f.ins.take m).flatMap lnL) wq) (fun v _ => ni - (intOf v).toNat)
                case atStart => exact ⟨0, rfl, by omega, HP6.out.to (by simp)⟩
                case round =>
                  obtain ⟨m, rfl, hmn, hps⟩ := hrel
                  have HPQ := Lib.hid hps
                  have hgq := hps.gs
                  clear hps
                  have HLM := Lib.hid (HIN.out m)
                  by_cases hlt4 : m < ni
                  · have hlt3i : (m : Int) < (ni : Int) := by omega
                    have hkl : m < f.ins.length := by have := HNI.out; omega
                    have hx := List.getElem?_eq_getElem hkl
                    have HBQ := Lib.hid HPQ.out.bel
                    obtain ⟨ib, ioff, rfl, hib, e0, e1, e2, e3, e4, e5⟩ := ins_at (HRI.out.keep (w' := wr) fun p hp => (HBQ.out.cell hp).trans (HBW.out.cell hp).symm) (HAI.out.keep (w' := wr) fun p hp => (HBQ.out.cell hp).trans (HBW.out.cell hp).symm) HNI.out hx
                    have HBX := Lib.hid (ins_bd HRI.out HAI.out HNI.out hx)
                    have HOX := Lib.hid (HOPS.out m _ hx)
                    have hibl : ib < wr.heap.size := Nat.lt_of_lt_of_le hib HBQ.out.size
                    have HTK := Lib.hid (flat8_snoc lnL f.ins m hx)
                    have HIN2 := Lib.hid (HIN.out (m + 1))
                    generalize f.ins[m] = x at *
                    obtain ⟨x0, x1, x2, x3, x4, x5⟩ := x
                    simp only at e0 e1 e2 e3 e4 e5 HBX HOX
                    clear hx hkl hib
                    have HPA := Lib.hid (HPQ.out.keep (al (.cells #[.int .i64 x0, .int .i64 x1, .int .i64 x2, .int .i64 x3, .int .i64 x4, .int .i64 x5] 47)))
                    go_wp2_with fail
                    refine Calls.mono (codeLine_any x0 x1 x2 x3 x4 x5 _ HOX.out (by obtain ⟨b0, b1, b2, b3, b4, b5⟩ := HBX.out; intro z hz; simp at hz; rcases hz with rfl | rfl | rfl | rfl | rfl <;> assumption)) ?_
                    rintro r w7 ⟨rfl, hb7⟩
                    have HP7 := Lib.hid (HPA.out.keep hb7)
                    have HLX := Lib.hid (show ((f.ins.take m).flatMap lnL ++ lnL ⟨x0, x1, x2, x3, x4, x5⟩).length ≤ 2300000 by rw [← HTK.out]; exact HIN2.out)
                    clear hb7 e0 e1 e2 e3 e4 e5
                    generalize hln : lnL ⟨x0, x1, x2, x3, x4, x5⟩ = ln at *
                    clear hln
                    go_wp2_with fail
                    refine Calls.mono (writeString_any _ _ _ _ _ HP7.out.bld (by rw [bc_len, List.length_append]; have := HLX.out; rw [List.length_append] at this; have h9 : (⟨ln.toArray⟩ : ByteArray).size = ln.length := (by show ln.toArray.size = _; simp); omega) (Nat.le_of_lt HP7.out.gs)) ?_
                    rintro e w8 ⟨rfl, hbl8, hb8, hk8, _⟩
                    have HP8 := Lib.hid (HP7.out.into (L' := showF K k ++ fnH f ++ (f.ins.take (m + 1)).flatMap lnL) hbl8 (by rw [sc_bc, bc_app, HTK.out]; simp) hb8 hk8)
                    clear hbl8 hb8 hk8
                    go_wp2_with fail
                    go_roundw
                    case rel => exact ⟨m + 1, by go_num, by omega, HP8.out⟩
                    case measure => simp [intOf]; omega
                  · obtain rfl : m = ni := by omega
                    have HP9 := Lib.hid (HPQ.out.to (L' := showF K (k + 1)) (by rw [HSTP.out, fnS, HNI.out, List.take_length, List.append_assoc]))
                    go_wp2_with fail
                    go_roundw
                    case rel => exact ⟨k + 1, by go_num, by omega, HP9.out⟩
                    case measure => simp [intOf]; omega
          · obtain rfl : k = nf := by omega
            have HBLD := Lib.hid HPR.out.bld
            go_wp2_with fail
            refine Calls.mono (Tryz.Builder_String_any _ _ _ _ HPR.out.bld (Nat.le_of_lt HPR.out.gs)) ?_
            rintro e w5 ⟨rfl, hb5⟩
            go_wp2_with fail
            go_returns
            refine ⟨by rw [if_pos H0.out, showC, ← HNF.out, H0.out]; rfl, HPR.out.bel.trans (hb5.mono (Nat.le_of_lt HPR.out.gp))⟩
  · have b0 : (s0 != 0) = true := by simpa using h0
    have H0 := Lib.hid h0
    clear h0
    go_enter Tryz.func9, Tryz.ntmps9
    go_wp2_with fail
    refine (HSD.out _ (al _)).mono ?_
    rintro e w1 ⟨rfl, hb1⟩
    have HB1 := Lib.hid (sq (al _) hb1)
    clear hb1 HSD
    go_wp2_with fail
    go_quiet (fail)
    go_wp2_with fail
    go_returns
    exact ⟨by rw [if_neg H0.out]; rfl, dr (sq HB1.out (al _)) _⟩
end
end Go.Proofs.YtjegfimagjmpdaaGreatDoor
