/- The document's 'Guard'. Printed by gen_gdh.py. Conditions: the code fits what comes in. -/
import Derived.Test.YtegpaniooigbdaaGdG
import Derived.Test.YtegpaniooigbdaaCdT
import Derived.Deep.CutRange
set_option maxRecDepth 100000
namespace Go.Proofs.Ytegpaniooigbdaa
open Go.ChangeShapes Go.WideShapes Go.ChangeAt Go.RowKit
/-- How often each place is aimed at, as a map. -/
def cntM (l : List II) : List (Int × Value) := l.foldl (fun acc i => if tgtB i.o = true then setM acc (tgtN i.o i.a i.b) (match getM acc (tgtN i.o i.a i.b) with | some (.int .i64 c) => .int .i64 (c + 1) | _ => .int .i64 1) else acc) []
theorem cntM_snoc (l : List II) (i : II) : cntM (l ++ [i]) = if tgtB i.o = true then setM (cntM l) (tgtN i.o i.a i.b) (match getM (cntM l) (tgtN i.o i.a i.b) with | some (.int .i64 c) => .int .i64 (c + 1) | _ => .int .i64 1) else cntM l := by
  unfold cntM
  rw [List.foldl_append]
  rfl
theorem cntIn_snoc (l : List II) (i : II) (t : Int) : cntIn (l ++ [i]) t = cntIn l t + if (tgtB i.o && decide (tgtN i.o i.a i.b = t)) = true then 1 else 0 := by
  unfold cntIn
  rw [List.filter_append, List.length_append, List.filter_cons]
  split <;> rfl
theorem cnt_get (l : List II) (t : Int) : getM (cntM l) t = if cntIn l t = 0 then none else some (.int .i64 (cntIn l t : Int)) := by
  refine rev_ind (P := fun l => ∀ t, getM (cntM l) t = if cntIn l t = 0 then none else some (.int .i64 (cntIn l t : Int))) (fun t => rfl) (fun l i ih => ?_) l t
  intro t
  rw [cntM_snoc, cntIn_snoc]
  cases hb : tgtB i.o with
  | false => simpa using ih t
  | true =>
    rw [if_pos rfl, getM_setM']
    by_cases ht : tgtN i.o i.a i.b = t
    · rw [if_pos ht, ih, ht]
      by_cases hc : cntIn l t = 0
      · simp [hc]
      · simp [hc]
    · rw [if_neg ht, ih]
      simp [ht]
theorem cntM_step (l : List II) (i : II) (h : tgtB i.o = true) : cntM (l ++ [i]) = setM (cntM l) (tgtN i.o i.a i.b) (.int .i64 ((cntIn l (tgtN i.o i.a i.b) : Int) + 1)) := by
  rw [cntM_snoc, if_pos h, cnt_get]
  by_cases hc : cntIn l (tgtN i.o i.a i.b) = 0
  · simp [hc]
  · simp [hc]
theorem cnt_lookup {w : World} {b : Nat} {l : List II} (h : MapIs w b (cntM l)) (t : Int) : (Instr.lookup 159 (.map (some b)) (.int .i64 t) false).run Try.prog w = .ok (.int .i64 (cntIn l t : Int)) w := by
  by_cases hc : cntIn l t = 0
  · rw [h.lookup1_no Try.underlying159 Try.underlying3 (z := .int .i64 0) (by kernel_rfl) (by rw [cnt_get, if_pos hc]), hc]
    rfl
  · exact h.lookup1_ok Try.underlying159 Try.underlying3 (by rw [cnt_get, if_neg hc])
theorem afterF_nn (o : Int) : 0 ≤ afterF o := by unfold afterF; split <;> (try split) <;> decide
theorem cnt_or (l : List II) (a b : Int) : (!tgtIn l a && !tgtIn l b) = !decide (0 < cntIn l a + cntIn l b) := by
  rw [← cnt_pos, ← cnt_pos]
  by_cases h1 : 0 < cntIn l a
  · rw [decide_eq_true h1, decide_eq_true (show 0 < cntIn l a + cntIn l b by omega)]
    rfl
  · rw [decide_eq_false h1]
    by_cases h2 : 0 < cntIn l b
    · rw [decide_eq_true h2, decide_eq_true (show 0 < cntIn l a + cntIn l b by omega)]
      rfl
    · rw [decide_eq_false h2, decide_eq_false (show ¬ 0 < cntIn l a + cntIn l b by omega)]
      rfl
theorem GX.grown {IA : Option Addr} {ic : Nat} {nm : ByteArray} {pa sl ca : Int} {ni gf : Nat} {w w' : World} {row : Option Nat} (h : GX IA ic nm pa sl ca ni gf w) (hg : w.grownBy w' row) (hne : some gf ≠ row) : GX IA ic nm pa sl ca ni gf w' := by
  have hk : w'.heap[gf]? = w.heap[gf]? := hg.block gf h.zf hne
  exact ⟨Nat.lt_of_lt_of_le h.zf hg.size, (World.cell?_of_block (a := ⟨gf, _, none⟩) hk).trans h.q0, (World.cell?_of_block (a := ⟨gf, _, none⟩) hk).trans h.q1, (World.cell?_of_block (a := ⟨gf, _, none⟩) hk).trans h.q2, (World.cell?_of_block (a := ⟨gf, _, none⟩) hk).trans h.q3, (World.cell?_of_block (a := ⟨gf, _, none⟩) hk).trans h.q4⟩
section
variable (FA TA : Option Addr) (fc tc : Nat) (K : KK)
set_option maxHeartbeats 16000000 in
theorem refGuard_any (nf nt : Nat) (w : World) (hnf : nf = K.funcs.length) (hnt : nt = K.texts.length) (hk : KR w w.heap.size FA TA K) : Calls Try.prog 38 #[.agg #[.slice FA nf fc, .slice TA nt tc]] w fun e w' => e = .returned (fixV (guardV K)) ∧ Below w.heap.size w w' := by
  have HNF := Lib.hid hnf
  have HNT := Lib.hid hnt
  have HK := Lib.hid hk
  have HSD := Lib.hid (fun W (hW : Below w.heap.size w W) => refSound_any FA TA fc tc K nf nt W HNF.out HNT.out ((HK.out.into hW).more hW.size))
  have HG0 := Lib.hid (@guard_bad K)
  have HG1 := Lib.hid (fun h k f hf => @sound_head K h k f hf)
  have HG2 := Lib.hid (fun h k f hf hb i hi hbi hr => @guard_at K h k f hf hb i hi hbi hr)
  have HG3 := Lib.hid (fun h hb => @guard_none K h hb)
  clear hnf hnt hk
  have hfl : nf ≤ 140737488351232 := by have := HK.out.fl; have := HNF.out; omega
  generalize soundV K = sv at *
  obtain ⟨s0, s1, s2⟩ := sv
  unfold fixV at HSD
  simp only at HSD HG0 HG1 HG2 HG3
  go_enter Try.func38, Try.ntmps38
  go_wp2_with fail
  have HSX := Lib.hid (SX.start (FA := FA) (TA := TA) (nf := nf) (nt := nt) (fc := fc) (tc := tc) (w := w) (ta := 71) (tb := 85))
  refine (HSD.out _ (sq (al _) (al _))).mono ?_
  rintro e w1 ⟨rfl, hb1⟩
  have HS1 := Lib.hid (HSX.out.into hb1)
  have HB1 := Lib.hid (sq (sq (al _) (al _)) hb1)
  clear hb1 HSX HSD
  by_cases h0 : s0 = 0
  · have b0 : (s0 != 0) = false := by simpa using h0
    have H0 := Lib.hid h0
    clear h0
    obtain ⟨z, p0, p1, r0, r1, r2, z0, z1, z2⟩ := HS1.out
    have zz : w.heap.size < w1.heap.size := by omega
    go_wp2_with fail
    generalize hw2 : World.alloc w1 _ = w2
    have HST := Lib.hid (show SX FA TA nf nt fc tc w.heap.size w2 by subst hw2; exact HS1.out.into (al _))
    have HBT := Lib.hid (show Below w.heap.size w w2 by subst hw2; exact al2 HB1.out _)
    have HLT := Lib.hid HBT.out.size
    clear hw2 z p0 p1 r0 r1 r2 z0 z1 z2 zz
    go_loopw [26] (fun v wq => ∃ k : Nat, v = .int .i64 (k : Int) ∧ k ≤ nf ∧ Hid (∀ j, j < k → guardFn K j = none) ∧ Below w2.heap.size w2 wq) (fun v _ => nf - (intOf v).toNat)
    case atStart => exact ⟨0, rfl, by omega, Lib.hid (fun j hj => by omega), Below.refl _ _⟩
    case round =>
      obtain ⟨k, rfl, hkn, HOK, hbel⟩ := hrel
      obtain ⟨wo, rfl⟩ : ∃ wo : World, wo = wr := ⟨_, rfl⟩
      have HBE := Lib.hid hbel
      have HSR := Lib.hid (HST.out.into hbel)
      have HBW := Lib.hid (HBT.out.trans (hbel.mono HLT.out))
      have HKW := Lib.hid (HK.out.into HBW.out)
      clear hbel
      by_cases hlt : k < nf
      · have hkt : k < K.funcs.length := by have := HNF.out; omega
        have HFK := Lib.hid (List.getElem?_eq_getElem hkt)
        obtain ⟨⟨fb, foff, IA, ic, hFA, hfb, f0, f1, f2, f3, f4, hic, hicm, ess, hri, hai⟩, _⟩ := HKW.out.fn k _ HFK.out
        subst hFA
        have hfbl : fb < wo.heap.size := Nat.lt_of_lt_of_le hfb HBW.out.size
        have hlti : (k : Int) < (nf : Int) := by omega
        have HRI := Lib.hid hri
        have HAI := Lib.hid hai
        generalize hf : K.funcs[k] = f at *
        obtain ⟨ni, hni⟩ : ∃ ni, ni = f.ins.length := ⟨_, rfl⟩
        rw [← hni] at f4 HRI
        have HNI := Lib.hid hni
        have hni20 : ni ≤ 20000 := by
          obtain ⟨_, _, _, _, _, h, _⟩ := head_ok (HG1.out H0.out k f HFK.out)
          rw [hni]; exact h
        clear hkt hri hai hni hf hfb hic hicm
        obtain ⟨z, p0, p1, r0, r1, r2, z0, z1, z2⟩ := HSR.out
        have hmm := @run_makeMap Try.prog
        go_wp2_with fail
        generalize hwb : wo.alloc (.cells #[.string f.name, .int .i64 f.params, .int .i64 f.slots, .int .i64 f.caps, .slice IA ni ic] 130) = wb
        have HJb := Lib.hid (show GX IA ic f.name f.params f.slots f.caps ni wo.heap.size wb by subst hwb; exact ⟨by simp, by simp [go_sem], by simp [go_sem], by simp [go_sem], by simp [go_sem], by simp [go_sem]⟩)
        have HBb := Lib.hid (show Below wo.heap.size wo wb by subst hwb; exact al _)
        have HGW := Lib.hid (show wb.heap.size = wo.heap.size + 1 by subst hwb; simp)
        clear hwb
        have HMP := Lib.hid (show MapIs (wb.alloc (.map #[] 0)) (wo.heap.size + 1) (cntM []) from by
          have := MapIs.made wb
          rwa [HGW.out] at this)
        generalize hwm : wb.alloc (.map #[] 0) = wm at *
        have HJm := Lib.hid (show GX IA ic f.name f.params f.slots f.caps ni wo.heap.size wm by rw [← hwm]; exact HJb.out.into (al _))
        have HBm := Lib.hid (show Below wo.heap.size wo wm by rw [← hwm]; exact sq HBb.out (al _))
        clear hwm z p0 p1 r0 r1 r2 z0 z1 z2 f0 f1 f2 f3 f4 HJb HBb hmm
        go_loopw [35] (fun v wq => ∃ n : Nat, v = .int .i64 (n : Int) ∧ n ≤ ni ∧ MapIs wq (wo.heap.size + 1) (cntM (f.ins.take n)) ∧ GX IA ic f.name f.params f.slots f.caps ni wo.heap.size wq ∧ Below wo.heap.size wo wq) (fun v _ => ni - (intOf v).toNat)
        case atStart => exact ⟨0, rfl, by omega, HMP.out, HJm.out, HBm.out⟩
        case round =>
          obtain ⟨n, rfl, hnn, hmq, hjq, hbel⟩ := hrel
          have HMQ := Lib.hid hmq
          have HJQ := Lib.hid hjq
          have HBRQ := Lib.hid hbel
          have HWQ := Lib.hid (HBW.out.trans (hbel.mono HBW.out.size))
          clear hmq hjq hbel
          by_cases hlt3 : n < ni
          · have hlt3i : (n : Int) < (ni : Int) := by omega
            have hkl : n < f.ins.length := by have := HNI.out; omega
            have hx := List.getElem?_eq_getElem hkl
            obtain ⟨ib, ioff, rfl, hib, e0, e1, e2, e3, e4, e5⟩ := ins_at (HRI.out.keep (w' := wr) fun p hp => HBRQ.out.cell (Nat.lt_of_lt_of_le hp HBW.out.size)) (HAI.out.keep (w' := wr) fun p hp => HBRQ.out.cell (Nat.lt_of_lt_of_le hp HBW.out.size)) HNI.out hx
            have hibl : ib < wr.heap.size := Nat.lt_of_lt_of_le hib HWQ.out.size
            have HTK := Lib.hid (show f.ins.take (n + 1) = f.ins.take n ++ [f.ins[n]] by rw [List.take_succ_eq_append_getElem hkl])
            have HCB := Lib.hid (fun t => cnt_le (f.ins.take n) t)
            have HTL := Lib.hid (show (f.ins.take n).length ≤ 20000 by rw [List.length_take]; omega)
            generalize f.ins[n] = x at *
            obtain ⟨x0, x1, x2, x3, x4, x5⟩ := x
            simp only at e0 e1 e2 e3 e4 e5
            clear hx hkl hib
            go_wp2_with fail
            refine (refTargetOf_any x0 x1 x2 x3 x4 x5 _).mono ?_
            rintro e w3 ⟨rfl, hb3⟩
            have HB3 := Lib.hid (sq (al _) hb3)
            have HM3 := Lib.hid (HMQ.out.below HB3.out HMQ.out.lt)
            have HJ3 := Lib.hid (HJQ.out.into HB3.out)
            clear hb3 e0 e1 e2 e3 e4 e5
            cases hb : tgtB x0 with
            | false =>
              have HMN := Lib.hid (show MapIs w3 (wo.heap.size + 1) (cntM (f.ins.take (n + 1))) by rw [HTK.out, cntM_snoc, if_neg (by rw [hb]; decide)]; exact HM3.out)
              clear hb
              generalize tgtN x0 x1 x2 = tn at *
              go_wp2_with fail
              go_roundw
              case rel => exact ⟨n + 1, by go_num, by omega, HMN.out, HJ3.out, HBRQ.out.trans (HB3.out.mono HBRQ.out.size)⟩
              case measure => simp [intOf]; omega
            | true =>
              have HGS := Lib.hid (show cntM (f.ins.take (n + 1)) = setM (cntM (f.ins.take n)) (tgtN x0 x1 x2) (.int .i64 ((cntIn (f.ins.take n) (tgtN x0 x1 x2) : Int) + 1)) by rw [HTK.out]; exact cntM_step _ ⟨x0, x1, x2, x3, x4, x5⟩ hb)
              clear hb
              generalize tgtN x0 x1 x2 = tn at *
              have hlk := cnt_lookup HM3.out tn
              have hcb := HCB.out tn
              have hcb2 := HTL.out
              generalize (f.ins.take n).length = tl at *
              generalize cntIn (f.ins.take n) tn = cn at *
              go_wp2_with (at_mapUpdate; refine wpList_update_i rfl _ _ _ 159 rfl 3 3 .i64 Try.underlying159 Try.underlying3 (wo.heap.size + 1) _ rfl HM3.out tn (.int .i64 ((cn : Int) + 1)) rfl rfl ?_; intro w5 hm5 hg5)
              have hne : some wo.heap.size ≠ some (wo.heap.size + 1) := fun e => by injection e with e; omega
              go_roundw
              case rel => exact ⟨n + 1, by go_num, by omega, by rw [HGS.out]; exact hm5, HJ3.out.grown hg5 hne, (HBRQ.out.trans (HB3.out.mono HBRQ.out.size)).grown hg5 (Nat.le_trans HBRQ.out.size HB3.out.size) (fun q hq => by injection hq with hq; omega)⟩
              case measure => simp [intOf]; omega
          · obtain rfl : n = ni := by omega
            have HF := Lib.hid (show f.ins.take n = f.ins by rw [HNI.out]; exact List.take_length)
            rw [HF.out] at HMQ
            obtain ⟨zf, q0, q1, q2, q3, q4⟩ := HJQ.out
            go_wp2_with fail
            have HM3 := HMQ
            have HJ3 := HJQ
            have HBR3 := HBRQ
            have HL3 := Lib.hid HBRQ.out.size
            have HS3 := Lib.hid (HSR.out.into HBRQ.out)
            clear zf q0 q1 q2 q3 q4 HMQ HJQ HBRQ HWQ hnn hlt3
            obtain ⟨w3, rfl⟩ : ∃ w3 : World, w3 = wr := ⟨_, rfl⟩
            go_loopw [53] (fun v wq => ∃ m : Nat, v = .int .i64 (m : Int) ∧ m ≤ n ∧ Hid (∀ j, j < m → gBad f k j = none) ∧ Below w3.heap.size w3 wq) (fun v _ => n - (intOf v).toNat)
            case atStart => exact ⟨0, rfl, by omega, Lib.hid (fun j hj => by omega), Below.refl _ _⟩
            case round =>
              obtain ⟨m, rfl, hnn, HOKI, hbel⟩ := hrel
              have HBQ := Lib.hid hbel
              have HSQ := Lib.hid (HS3.out.into hbel)
              have HJQ := Lib.hid (HJ3.out.into hbel)
              have HMQ := Lib.hid (HM3.out.below hbel HM3.out.lt)
              have HBRQ := Lib.hid (HBR3.out.trans (hbel.mono HL3.out))
              have HWQ := Lib.hid (HBW.out.trans (HBRQ.out.mono HBW.out.size))
              clear hbel
              by_cases hlt3 : m < n
              · have hlt3i : (m : Int) < (n : Int) := by omega
                have hkl : m < f.ins.length := by have := HNI.out; omega
                obtain ⟨ib, ioff, rfl, hib, hcs⟩ := ins_cells (HRI.out.keep (w' := wr) fun p hp => HBRQ.out.cell (Nat.lt_of_lt_of_le hp HBW.out.size)) (HAI.out.keep (w' := wr) fun p hp => HBRQ.out.cell (Nat.lt_of_lt_of_le hp HBW.out.size)) HNI.out (by omega)
                have hibw : ib < wr.heap.size := Nat.lt_of_lt_of_le hib HWQ.out.size
                have HCS := Lib.hid hcs
                have hx := List.getElem?_eq_getElem hkl
                obtain ⟨e0, e1, e2, e3, e4, e5⟩ := hcs m _ hx
                have HRB := Lib.hid (show rightB f.ins m = (afterOk f.ins m f.ins[m] && aheadOk f.ins m f.ins[m]) by unfold rightB; rw [hx])
                have HAF := Lib.hid (after_cases f.ins m f.ins[m])
                have HAH := Lib.hid (ahead_cases f.ins m hkl f.ins[m])
                have HKL := Lib.hid hkl
                generalize f.ins[m] = x at *
                obtain ⟨x0, x1, x2, x3, x4, x5⟩ := x
                simp only at e0 e1 e2 e3 e4 e5 HAF HAH
                have HNB := Lib.hid (fun w => (need_both x0 x1 x2 x3 x4 x5 w).2)
                have HIV := Lib.hid hib
                clear hcs hx hib hkl
                have haf := HAF.out
                rw [← HNI.out] at haf
                clear HAF
                have hnn0 := afterF_nn x0
                generalize hafv : afterF x0 = af at *
                have HAFV := Lib.hid hafv
                clear hafv
                obtain ⟨zf, q0, q1, q2, q3, q4⟩ := HJQ.out
                have zgf : wo.heap.size < wr.heap.size := zf
                go_wp2_with fail
                refine (refAfterOf_any x0 _).mono ?_
                rintro e w4 ⟨rfl, hb4⟩
                rw [HAFV.out]
                have kb := boxed1 hb4
                have y0 : w4.cell? ⟨wr.heap.size, 0, none⟩ = some (.int .i64 x0) := kb 0 _ rfl
                have y1 : w4.cell? ⟨wr.heap.size, 1, none⟩ = some (.int .i64 x1) := kb 1 _ rfl
                have y2 : w4.cell? ⟨wr.heap.size, 2, none⟩ = some (.int .i64 x2) := kb 2 _ rfl
                have y3 : w4.cell? ⟨wr.heap.size, 3, none⟩ = some (.int .i64 x3) := kb 3 _ rfl
                have y4 : w4.cell? ⟨wr.heap.size, 4, none⟩ = some (.int .i64 x4) := kb 4 _ rfl
                have y5 : w4.cell? ⟨wr.heap.size, 5, none⟩ = some (.int .i64 x5) := kb 5 _ rfl
                have HB4 := Lib.hid (sq (al _) hb4)
                have f4 : w4.cell? ⟨wo.heap.size, 4, none⟩ = some (.slice (some ⟨ib, ioff, none⟩) n ic) := (HB4.out.cell (p := ⟨wo.heap.size, 4, none⟩) zgf).trans q4
                clear hb4 kb e0 e1 e2 e3 e4 e5
                obtain ⟨b0, hb0⟩ : ∃ b0 : Bool, b0 = !afterOk f.ins m ⟨x0, x1, x2, x3, x4, x5⟩ := ⟨_, rfl⟩
                have HB0 := Lib.hid hb0
                clear hb0
                have HAFC := Lib.hid haf
                clear haf
                go_upto_if 62 with (fail)
                go_cut [13, 53] from 53 to 125 (fun s13 s53 wx => s13 = .bool b0 ∧ s53 = .int .i64 (m : Int) ∧ wx = w4)
                case first =>
                  rcases HAFC.out with ⟨h1, h2⟩ | ⟨h1, h3, h2⟩ | ⟨y, hy, h3, h1, h4, h2⟩ | ⟨y, hy, h3, h1, h4, h2⟩
                  all_goals
                    rw [h2] at HB0
                    obtain rfl := HB0.out
                    first
                      | have b1 : ¬ (0 : Int) < af := by omega
                      | have b1 : (0 : Int) < af := by omega
                    try (have b3 : ((m : Int) == (n : Int) - 1) = true := by simp; omega)
                    try (have b3 : ((m : Int) == (n : Int) - 1) = false := by simp; omega)
                    try (have yc := ((HCS.out (m + 1) y hy).keep (w' := w4) (fun o => HB4.out.cell (p := ⟨ib, o, none⟩) hibw)).e0)
                    try (have b2 : (y.o != af) = true := by simpa using h4)
                    try (have b2 : (y.o != af) = false := by simpa using h4)
                    try (generalize y.o = yo at *)
                    clear h1 h2
                    try clear h4
                    try clear hy
                    go_wp2_with fail
                    go_meet
                    case rel => exact ⟨rfl, rfl, rfl⟩
                case rest =>
                  obtain ⟨rfl, rfl, hwc⟩ := hcut
                  subst hwc
                  have HAO := HAH.out
                  clear HAH
                  rcases HAO with ⟨hv, ho⟩ | ⟨⟨ra, rb, rc, rd⟩, hv, hrest⟩
                  · have hI : needI x0 x1 x2 x3 x4 = ins 0 0 0 0 0 0 := by unfold needI; rw [hv]
                    have hb : needB x0 x1 x2 x3 x4 = false := by unfold needB; rw [hv]; rfl
                    rw [hI, hb] at HNB
                    clear hI hb hv
                    go_wp2_with fail
                    refine (HNB.out _).mono ?_
                    rintro e w5 ⟨rfl, hb5⟩
                    have HB5 := Lib.hid (HB4.out.trans (hb5.mono HB4.out.size))
                    have f5 : w5.cell? ⟨wo.heap.size, 4, none⟩ = some (.slice (some ⟨ib, ioff, none⟩) n ic) := (HB5.out.cell (p := ⟨wo.heap.size, 4, none⟩) zgf).trans q4
                    have z5 : wo.heap.size < w5.heap.size := Nat.lt_of_lt_of_le zgf HB5.out.size
                    have hib5 : ib < w5.heap.size := Nat.lt_of_lt_of_le hibw HB5.out.size
                    have HC5 := Lib.hid (fun j x hx => (HCS.out j x hx).keep (w' := w5) (fun o => HB5.out.cell (p := ⟨ib, o, none⟩) hibw))
                    have HM5 := Lib.hid (HMQ.out.below HB5.out HMQ.out.lt)
                    clear hb5
                    go_wp2_with fail
                    cases b0 with
                    | true =>
                      have hz : rightB f.ins m = false := by
                        rw [HRB.out, show afterOk f.ins m ⟨x0, x1, x2, x3, x4, x5⟩ = false by have := HB0.out; simpa using this.symm]
                        rfl
                      go_quiet (fail)
                      generalize hwf : World.drewN _ nq = wf
                      have HBF := Lib.hid (show Below wr.heap.size wr wf by subst hwf; exact dr (al2 HB5.out _) _)
                      have HSF := Lib.hid (HSQ.out.into HBF.out)
                      clear hwf
                      have HV := Lib.hid (HG2.out H0.out k f HFK.out HOK.out m HKL.out HOKI.out hz)
                      clear hz ho
                      obtain ⟨z, p0, p1, r0, r1, r2, z0, z1, z2⟩ := HSF.out
                      go_wp2_with fail
                      refine bodyPost_ret (v := fixV (guardV K)) (by rw [HV.out]; simp [results, Try.results38, go_sem, fixV, r0, r1, r2]) rfl ⟨rfl, below_res (HWQ.out.trans (HBF.out.mono HWQ.out.size)) _ _ _⟩
                    | false =>
                      have hz : rightB f.ins m = true := by
                        rw [HRB.out, show afterOk f.ins m ⟨x0, x1, x2, x3, x4, x5⟩ = true by have := HB0.out; simpa using this.symm, ho]
                        rfl
                      have HOK2 := Lib.hid (show ∀ j, j < m + 1 → gBad f k j = none from fun j hj => by
                        rcases Nat.lt_or_ge j m with h3 | h3
                        · exact HOKI.out j h3
                        · obtain rfl : j = m := by omega
                          unfold gBad
                          rw [hz]
                          rfl)
                      clear hz ho
                      go_quiet (fail)
                      generalize hwf : World.drewN _ nq = wf
                      have HBF := Lib.hid (show Below wr.heap.size wr wf by subst hwf; exact dr (al2 HB5.out _) _)
                      have HSF := Lib.hid (HSQ.out.into HBF.out)
                      clear hwf
                      go_wp2_with fail
                      go_roundw
                      case rel => first | exact ⟨m + 1, by go_num, by omega, HOK2, HBQ.out.trans (HBF.out.mono HBQ.out.size)⟩ | ((repeat apply Exists.intro); exact ⟨⟨m + 1, by go_num, by omega, HOK2, HBQ.out.trans (HBF.out.mono HBQ.out.size)⟩, rfl⟩)
                      case measure => simp [intOf]; omega
                  · have hI : needI x0 x1 x2 x3 x4 = ins 24 ra rb rc rd 0 := by unfold needI; rw [hv]
                    have hb : needB x0 x1 x2 x3 x4 = true := by unfold needB; rw [hv]; rfl
                    rw [hI, hb] at HNB
                    have HNQ := Lib.hid (fun (q0 q1 q2 q3 q4 q5 : Int) w => ins_neq q0 q1 q2 q3 q4 q5 24 ra rb rc rd 0 w)
                    clear hI hb hv
                    go_wp2_with fail
                    refine (HNB.out _).mono ?_
                    rintro e w5 ⟨rfl, hb5⟩
                    have HB5 := Lib.hid (HB4.out.trans (hb5.mono HB4.out.size))
                    have f5 : w5.cell? ⟨wo.heap.size, 4, none⟩ = some (.slice (some ⟨ib, ioff, none⟩) n ic) := (HB5.out.cell (p := ⟨wo.heap.size, 4, none⟩) zgf).trans q4
                    have z5 : wo.heap.size < w5.heap.size := Nat.lt_of_lt_of_le zgf HB5.out.size
                    have hib5 : ib < w5.heap.size := Nat.lt_of_lt_of_le hibw HB5.out.size
                    have HC5 := Lib.hid (fun j x hx => (HCS.out j x hx).keep (w' := w5) (fun o => HB5.out.cell (p := ⟨ib, o, none⟩) hibw))
                    have HM5 := Lib.hid (HMQ.out.below HB5.out HMQ.out.lt)
                    clear hb5
                    go_wp2_with fail
                    rcases hrest with ⟨h2, ho⟩ | ⟨p, q, h2, hp, hq, ⟨hpo, ho⟩ | ⟨hpo, hs, ho⟩ | ⟨hpo, hs, ho⟩⟩
                    · have h2i : (m : Int) < 2 := by omega
                      clear h2
                      have hz : rightB f.ins m = false := by rw [HRB.out, ho, Bool.and_false]
                      go_quiet (fail)
                      generalize hwf : World.drewN _ nq = wf
                      have HBF := Lib.hid (show Below wr.heap.size wr wf by subst hwf; exact dr (al2 HB5.out _) _)
                      have HSF := Lib.hid (HSQ.out.into HBF.out)
                      clear hwf
                      have HV := Lib.hid (HG2.out H0.out k f HFK.out HOK.out m HKL.out HOKI.out hz)
                      clear hz ho
                      obtain ⟨z, p0, p1, r0, r1, r2, z0, z1, z2⟩ := HSF.out
                      go_wp2_with fail
                      refine bodyPost_ret (v := fixV (guardV K)) (by rw [HV.out]; simp [results, Try.results38, go_sem, fixV, r0, r1, r2]) rfl ⟨rfl, below_res (HWQ.out.trans (HBF.out.mono HWQ.out.size)) _ _ _⟩
                    · have h2i : decide ((m : Int) < 2) = false := by simp; omega
                      have c0 := (HC5.out (m - 1) p hp).e0
                      have bp : (p.o != 25) = true := by simpa using hpo
                      have hk1 : IntKind.i64.wrap ((m : Int) - 1) = (m : Int) - 1 := IntWalk.i64_in _ (by omega)
                      have hk2 : ((m : Int) - 1).toNat = m - 1 := by omega
                      have hk3 : 0 ≤ (m : Int) - 1 := by omega
                      have hk4 : (m : Int) - 1 < (n : Int) := by omega
                      generalize p.o = po at *
                      clear hpo hp hq
                      have hz : rightB f.ins m = false := by rw [HRB.out, ho, Bool.and_false]
                      go_quiet (fail)
                      generalize hwf : World.drewN _ nq = wf
                      have HBF := Lib.hid (show Below wr.heap.size wr wf by subst hwf; exact dr (al2 HB5.out _) _)
                      have HSF := Lib.hid (HSQ.out.into HBF.out)
                      clear hwf
                      have HV := Lib.hid (HG2.out H0.out k f HFK.out HOK.out m HKL.out HOKI.out hz)
                      clear hz ho
                      obtain ⟨z, p0, p1, r0, r1, r2, z0, z1, z2⟩ := HSF.out
                      go_wp2_with fail
                      refine bodyPost_ret (v := fixV (guardV K)) (by rw [HV.out]; simp [results, Try.results38, go_sem, fixV, r0, r1, r2]) rfl ⟨rfl, below_res (HWQ.out.trans (HBF.out.mono HWQ.out.size)) _ _ _⟩
                    · have h2i : decide ((m : Int) < 2) = false := by simp; omega
                      have c0 := (HC5.out (m - 1) p hp).e0
                      rw [hpo] at c0
                      obtain ⟨q0, q1, q2, q3, q4, q5⟩ := q
                      obtain ⟨d0, d1, d2, d3, d4, d5⟩ := HC5.out (m - 2) _ hq
                      simp only at d0 d1 d2 d3 d4 d5
                      have hk1 : IntKind.i64.wrap ((m : Int) - 1) = (m : Int) - 1 := IntWalk.i64_in _ (by omega)
                      have hk2 : ((m : Int) - 1).toNat = m - 1 := by omega
                      have hk3 : 0 ≤ (m : Int) - 1 := by omega
                      have hk4 : (m : Int) - 1 < (n : Int) := by omega
                      have hj1 : IntKind.i64.wrap ((m : Int) - 2) = (m : Int) - 2 := IntWalk.i64_in _ (by omega)
                      have hj2 : ((m : Int) - 2).toNat = m - 2 := by omega
                      have hj3 : 0 ≤ (m : Int) - 2 := by omega
                      have hj4 : (m : Int) - 2 < (n : Int) := by omega
                      have e6 : decide (q0 = 24 ∧ q1 = ra ∧ q2 = rb ∧ q3 = rc ∧ q4 = rd ∧ q5 = 0) = false := hs
                      have hnq := HNQ.out q0 q1 q2 q3 q4 q5
                      rw [e6] at hnq
                      unfold ins at hnq
                      simp only [Bool.not_false] at hnq
                      clear hpo hp hq hs e6
                      have hz : rightB f.ins m = false := by rw [HRB.out, ho, Bool.and_false]
                      go_quiet (fail)
                      generalize hwf : World.drewN _ nq = wf
                      have HBF := Lib.hid (show Below wr.heap.size wr wf by subst hwf; exact dr (al2 HB5.out _) _)
                      have HSF := Lib.hid (HSQ.out.into HBF.out)
                      clear hwf
                      have HV := Lib.hid (HG2.out H0.out k f HFK.out HOK.out m HKL.out HOKI.out hz)
                      clear hz ho
                      obtain ⟨z, p0, p1, r0, r1, r2, z0, z1, z2⟩ := HSF.out
                      go_wp2_with fail
                      refine bodyPost_ret (v := fixV (guardV K)) (by rw [HV.out]; simp [results, Try.results38, go_sem, fixV, r0, r1, r2]) rfl ⟨rfl, below_res (HWQ.out.trans (HBF.out.mono HWQ.out.size)) _ _ _⟩
                    · have h2i : decide ((m : Int) < 2) = false := by simp; omega
                      have c0 := (HC5.out (m - 1) p hp).e0
                      rw [hpo] at c0
                      obtain ⟨q0, q1, q2, q3, q4, q5⟩ := q
                      obtain ⟨d0, d1, d2, d3, d4, d5⟩ := HC5.out (m - 2) _ hq
                      simp only at d0 d1 d2 d3 d4 d5
                      have hk1 : IntKind.i64.wrap ((m : Int) - 1) = (m : Int) - 1 := IntWalk.i64_in _ (by omega)
                      have hk2 : ((m : Int) - 1).toNat = m - 1 := by omega
                      have hk3 : 0 ≤ (m : Int) - 1 := by omega
                      have hk4 : (m : Int) - 1 < (n : Int) := by omega
                      have hj1 : IntKind.i64.wrap ((m : Int) - 2) = (m : Int) - 2 := IntWalk.i64_in _ (by omega)
                      have hj2 : ((m : Int) - 2).toNat = m - 2 := by omega
                      have hj3 : 0 ≤ (m : Int) - 2 := by omega
                      have hj4 : (m : Int) - 2 < (n : Int) := by omega
                      have e6 : decide (q0 = 24 ∧ q1 = ra ∧ q2 = rb ∧ q3 = rc ∧ q4 = rd ∧ q5 = 0) = true := hs
                      have hnq := HNQ.out q0 q1 q2 q3 q4 q5
                      rw [e6] at hnq
                      unfold ins at hnq
                      simp only [Bool.not_true] at hnq
                      clear hpo hp hq hs e6
                      rw [cnt_or] at ho
                      have hl1 : ∀ j, (Instr.lookup 159 (.map (some (wo.heap.size + 1))) (.int .i64 (m : Int)) false).run Try.prog ((w5.alloc (.cells #[.int .i64 24, .int .i64 ra, .int .i64 rb, .int .i64 rc, .int .i64 rd, .int .i64 0] 132)).drewN j) = .ok (.int .i64 (cntIn f.ins (m : Int) : Int)) ((w5.alloc (.cells #[.int .i64 24, .int .i64 ra, .int .i64 rb, .int .i64 rc, .int .i64 rd, .int .i64 0] 132)).drewN j) := fun j => cnt_lookup (w := (w5.alloc (.cells #[.int .i64 24, .int .i64 ra, .int .i64 rb, .int .i64 rc, .int .i64 rd, .int .i64 0] 132)).drewN j) (HM5.out.alloc _) _
                      have hl2 : ∀ j, (Instr.lookup 159 (.map (some (wo.heap.size + 1))) (.int .i64 ((m : Int) - 1)) false).run Try.prog ((w5.alloc (.cells #[.int .i64 24, .int .i64 ra, .int .i64 rb, .int .i64 rc, .int .i64 rd, .int .i64 0] 132)).drewN j) = .ok (.int .i64 (cntIn f.ins ((m : Int) - 1) : Int)) ((w5.alloc (.cells #[.int .i64 24, .int .i64 ra, .int .i64 rb, .int .i64 rc, .int .i64 rd, .int .i64 0] 132)).drewN j) := fun j => cnt_lookup (w := (w5.alloc (.cells #[.int .i64 24, .int .i64 ra, .int .i64 rb, .int .i64 rc, .int .i64 rd, .int .i64 0] 132)).drewN j) (HM5.out.alloc _) _
                      have hc1 := cnt_le f.ins (m : Int)
                      have hc2 := cnt_le f.ins ((m : Int) - 1)
                      rw [← HNI.out] at hc1 hc2
                      generalize cntIn f.ins (m : Int) = ca at *
                      generalize cntIn f.ins ((m : Int) - 1) = cb at *
                      have hsm : IntKind.i64.wrap ((ca : Int) + (cb : Int)) = (ca : Int) + (cb : Int) := IntWalk.i64_in _ (by omega)
                      by_cases hs : 0 < ca + cb
                      · rw [decide_eq_true hs, Bool.not_true] at ho
                        have hsi : (0 : Int) < (ca : Int) + (cb : Int) := by omega
                        clear hs
                        have hz : rightB f.ins m = false := by rw [HRB.out, ho, Bool.and_false]
                        go_quiet (fail)
                        generalize hwf : World.drewN _ nq = wf
                        have HBF := Lib.hid (show Below wr.heap.size wr wf by subst hwf; exact dr (al2 HB5.out _) _)
                        have HSF := Lib.hid (HSQ.out.into HBF.out)
                        clear hwf
                        have HV := Lib.hid (HG2.out H0.out k f HFK.out HOK.out m HKL.out HOKI.out hz)
                        clear hz ho
                        obtain ⟨z, p0, p1, r0, r1, r2, z0, z1, z2⟩ := HSF.out
                        go_wp2_with fail
                        refine bodyPost_ret (v := fixV (guardV K)) (by rw [HV.out]; simp [results, Try.results38, go_sem, fixV, r0, r1, r2]) rfl ⟨rfl, below_res (HWQ.out.trans (HBF.out.mono HWQ.out.size)) _ _ _⟩
                      · rw [decide_eq_false hs, Bool.not_false] at ho
                        have hsi : ¬ (0 : Int) < (ca : Int) + (cb : Int) := by omega
                        clear hs
                        cases b0 with
                        | true =>
                          have hz : rightB f.ins m = false := by
                            rw [HRB.out, show afterOk f.ins m ⟨x0, x1, x2, x3, x4, x5⟩ = false by have := HB0.out; simpa using this.symm]
                            rfl
                          go_quiet (fail)
                          generalize hwf : World.drewN _ nq = wf
                          have HBF := Lib.hid (show Below wr.heap.size wr wf by subst hwf; exact dr (al2 HB5.out _) _)
                          have HSF := Lib.hid (HSQ.out.into HBF.out)
                          clear hwf
                          have HV := Lib.hid (HG2.out H0.out k f HFK.out HOK.out m HKL.out HOKI.out hz)
                          clear hz ho
                          obtain ⟨z, p0, p1, r0, r1, r2, z0, z1, z2⟩ := HSF.out
                          go_wp2_with fail
                          refine bodyPost_ret (v := fixV (guardV K)) (by rw [HV.out]; simp [results, Try.results38, go_sem, fixV, r0, r1, r2]) rfl ⟨rfl, below_res (HWQ.out.trans (HBF.out.mono HWQ.out.size)) _ _ _⟩
                        | false =>
                          have hz : rightB f.ins m = true := by
                            rw [HRB.out, show afterOk f.ins m ⟨x0, x1, x2, x3, x4, x5⟩ = true by have := HB0.out; simpa using this.symm, ho]
                            rfl
                          have HOK2 := Lib.hid (show ∀ j, j < m + 1 → gBad f k j = none from fun j hj => by
                            rcases Nat.lt_or_ge j m with h3 | h3
                            · exact HOKI.out j h3
                            · obtain rfl : j = m := by omega
                              unfold gBad
                              rw [hz]
                              rfl)
                          clear hz ho
                          go_quiet (fail)
                          generalize hwf : World.drewN _ nq = wf
                          have HBF := Lib.hid (show Below wr.heap.size wr wf by subst hwf; exact dr (al2 HB5.out _) _)
                          have HSF := Lib.hid (HSQ.out.into HBF.out)
                          clear hwf
                          go_wp2_with fail
                          go_roundw
                          case rel => first | exact ⟨m + 1, by go_num, by omega, HOK2, HBQ.out.trans (HBF.out.mono HBQ.out.size)⟩ | ((repeat apply Exists.intro); exact ⟨⟨m + 1, by go_num, by omega, HOK2, HBQ.out.trans (HBF.out.mono HBQ.out.size)⟩, rfl⟩)
                          case measure => simp [intOf]; omega
              · obtain rfl : m = n := by omega
                have HOK2 := Lib.hid (show ∀ j, j < k + 1 → guardFn K j = none from fun j hj => by
                  rcases Nat.lt_or_ge j k with h3 | h3
                  · exact HOK.out j h3
                  · obtain rfl : j = k := by omega
                    exact guardFn_none HFK.out (fun j hj => HOKI.out j (by have := HNI.out; omega)))
                go_wp2_with fail
                go_roundw
                case rel => exact ⟨k + 1, by go_num, by omega, HOK2, HBE.out.trans (HBRQ.out.mono HBE.out.size)⟩
                case measure => simp [intOf]; omega
      · obtain rfl : k = nf := by omega
        have HV := Lib.hid (HG3.out H0.out (fun j hj => HOK.out j (by have := HNF.out; omega)))
        obtain ⟨z, p0, p1, r0, r1, r2, z0, z1, z2⟩ := HSR.out
        go_wp2_with fail
        refine bodyPost_ret (v := fixV (guardV K)) (by rw [HV.out]; simp [results, Try.results38, go_sem, fixV, r0, r1, r2]) rfl ⟨rfl, below_res HBW.out _ _ _⟩
  · have b0 : (s0 != 0) = true := by simpa using h0
    have HV := Lib.hid (HG0.out h0)
    clear h0
    obtain ⟨z, p0, p1, r0, r1, r2, z0, z1, z2⟩ := HS1.out
    have zz : w.heap.size < w1.heap.size := by omega
    go_wp2_with fail
    obtain ⟨k0, k1, k2⟩ := res_cells (.cells #[.int .i64 s0, .int .i64 s1, .int .i64 s2] 85) z r0 r1 r2 (.int .i64 s0) (.int .i64 s1) (.int .i64 s2)
    refine bodyPost_ret (v := fixV (guardV K)) (by rw [HV.out]; simp [results, Try.results38, go_sem, fixV, k0, k1, k2]) rfl ⟨rfl, al2 (below_res HB1.out _ _ _) _⟩
end
end Go.Proofs.Ytegpaniooigbdaa
