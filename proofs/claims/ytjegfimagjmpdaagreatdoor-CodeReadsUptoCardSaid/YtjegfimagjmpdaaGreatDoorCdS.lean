/- 'code.Sound'. Conditions: the code fits what comes in. -/
import Derived.Test.YtjegfimagjmpdaaGreatDoorCdV
import Derived.Test.YtjegfimagjmpdaaGreatDoorCdC
set_option maxRecDepth 100000
namespace Go.Proofs.YtjegfimagjmpdaaGreatDoor
open Go.ChangeShapes Go.WideShapes Go.ChangeAt Go.RowKit
/-- The code's head and the result's cells. -/
structure SX (FA TA : Option Addr) (nf nt fc tc g : Nat) (w : World) : Prop where
  z : g + 1 < w.heap.size
  p0 : w.cell? ⟨g, 0, none⟩ = some (.slice FA nf fc)
  p1 : w.cell? ⟨g, 1, none⟩ = some (.slice TA nt tc)
  r0 : w.cell? ⟨g + 1, 0, none⟩ = some (.int .i64 0)
  r1 : w.cell? ⟨g + 1, 1, none⟩ = some (.int .i64 0)
  r2 : w.cell? ⟨g + 1, 2, none⟩ = some (.int .i64 0)
  z0 : w.frozen? ⟨g + 1, 0, none⟩ = false
  z1 : w.frozen? ⟨g + 1, 1, none⟩ = false
  z2 : w.frozen? ⟨g + 1, 2, none⟩ = false
theorem SX.into {FA TA : Option Addr} {nf nt fc tc g : Nat} {w w' : World} (h : SX FA TA nf nt fc tc g w) (hb : Below w.heap.size w w') : SX FA TA nf nt fc tc g w' := by
  have l1 := h.z
  have l0 : g < w.heap.size := by omega
  exact ⟨Nat.lt_of_lt_of_le l1 hb.size, (hb.cell (p := ⟨g, _, none⟩) l0).trans h.p0, (hb.cell (p := ⟨g, _, none⟩) l0).trans h.p1,
    (hb.cell (p := ⟨g + 1, _, none⟩) l1).trans h.r0, (hb.cell (p := ⟨g + 1, _, none⟩) l1).trans h.r1, (hb.cell (p := ⟨g + 1, _, none⟩) l1).trans h.r2,
    (hb.frozen (p := ⟨g + 1, _, none⟩) l1).trans h.z0, (hb.frozen (p := ⟨g + 1, _, none⟩) l1).trans h.z1, (hb.frozen (p := ⟨g + 1, _, none⟩) l1).trans h.z2⟩
theorem SX.start {FA TA : Option Addr} {nf nt fc tc : Nat} {w : World} {ta tb : TypeId} : SX FA TA nf nt fc tc w.heap.size ((w.alloc (.cells #[.slice FA nf fc, .slice TA nt tc] ta)).alloc (.cells #[.int .i64 0, .int .i64 0, .int .i64 0] tb)) := by
  constructor <;> simp [go_sem]
/-- The judge's cells and the function's instructions. -/
structure JF (FA TA IA : Option Addr) (fc tc ic : Nat) (nm : ByteArray) (pa sl ca : Int) (nf nt ni gf gj : Nat) (w : World) : Prop where
  z : gj < w.heap.size
  zf : gf < w.heap.size
  q4 : w.cell? ⟨gf, 4, none⟩ = some (.slice IA ni ic)
  j0 : w.cell? ⟨gj, 0, none⟩ = some (.slice FA nf fc)
  j1 : w.cell? ⟨gj, 1, none⟩ = some (.slice TA nt tc)
  j2 : w.cell? ⟨gj, 2, none⟩ = some (.string nm)
  j3 : w.cell? ⟨gj, 3, none⟩ = some (.int .i64 pa)
  j4 : w.cell? ⟨gj, 4, none⟩ = some (.int .i64 sl)
  j5 : w.cell? ⟨gj, 5, none⟩ = some (.int .i64 ca)
  j6 : w.cell? ⟨gj, 6, none⟩ = some (.slice IA ni ic)
theorem JF.into {FA TA IA : Option Addr} {fc tc ic : Nat} {nm : ByteArray} {pa sl ca : Int} {nf nt ni gf gj : Nat} {w w' : World} (h : JF FA TA IA fc tc ic nm pa sl ca nf nt ni gf gj w) (hb : Below w.heap.size w w') : JF FA TA IA fc tc ic nm pa sl ca nf nt ni gf gj w' := by
  have l := h.z
  exact ⟨Nat.lt_of_lt_of_le l hb.size, Nat.lt_of_lt_of_le h.zf hb.size, (hb.cell (p := ⟨gf, _, none⟩) h.zf).trans h.q4, (hb.cell (p := ⟨gj, _, none⟩) l).trans h.j0, (hb.cell (p := ⟨gj, _, none⟩) l).trans h.j1, (hb.cell (p := ⟨gj, _, none⟩) l).trans h.j2, (hb.cell (p := ⟨gj, _, none⟩) l).trans h.j3, (hb.cell (p := ⟨gj, _, none⟩) l).trans h.j4, (hb.cell (p := ⟨gj, _, none⟩) l).trans h.j5, (hb.cell (p := ⟨gj, _, none⟩) l).trans h.j6⟩
theorem below_res {w wr : World} (hb : Below w.heap.size w wr) (a b c : Value) : Below w.heap.size w (((wr.setCell ⟨w.heap.size + 1, 0, none⟩ a).setCell ⟨w.heap.size + 1, 1, none⟩ b).setCell ⟨w.heap.size + 1, 2, none⟩ c) :=
  Below.setCell (Below.setCell (Below.setCell hb (p := ⟨w.heap.size + 1, 0, none⟩) (Nat.le_succ _) a) (p := ⟨w.heap.size + 1, 1, none⟩) (Nat.le_succ _) b) (p := ⟨w.heap.size + 1, 2, none⟩) (Nat.le_succ _) c
theorem sound_text {K : KK} (h0 : ¬ K.funcs.length = 0) (h1 : ¬ (400 < K.funcs.length ∨ 2000 < K.texts.length)) {r : Int × Int × Int} {i : Nat} (hi : i < K.texts.length) (hb : ∀ j < i, textBad K j = none) (h : textBad K i = some r) : soundV K = r := by
  unfold soundV
  rw [if_neg h0, if_neg h1, firstBad_at hi hb h]
theorem sound_fn {K : KK} (h0 : ¬ K.funcs.length = 0) (h1 : ¬ (400 < K.funcs.length ∨ 2000 < K.texts.length)) (ht : ∀ j < K.texts.length, textBad K j = none) {r : Int × Int × Int} {i : Nat} (hi : i < K.funcs.length) (hb : ∀ j < i, fnsBad K j = none) (h : fnsBad K i = some r) : soundV K = r := by
  unfold soundV
  rw [if_neg h0, if_neg h1, firstBad_none ht, firstBad_at hi hb h]
theorem sound_ok {K : KK} (h0 : ¬ K.funcs.length = 0) (h1 : ¬ (400 < K.funcs.length ∨ 2000 < K.texts.length)) (ht : ∀ j < K.texts.length, textBad K j = none) (hb : ∀ j < K.funcs.length, fnsBad K j = none) : soundV K = (0, 0, 0) := by
  unfold soundV
  rw [if_neg h0, if_neg h1, firstBad_none ht, firstBad_none hb]
theorem fns_head {K : KK} {k : Nat} {f : FF} (hf : K.funcs[k]? = some f) (h : ¬ headV k f = 0) : fnsBad K k = some (headV k f, (k : Int), -1) := by
  unfold fnsBad fnBad
  rw [hf]
  simp only
  rw [if_neg h]
theorem fns_ins {K : KK} {k : Nat} {f : FF} (hf : K.funcs[k]? = some f) (h : headV k f = 0) {i : Nat} {r : Int × Int × Int} (hi : i < f.ins.length) (hb : ∀ j < i, insBad K k f j = none) (hr : insBad K k f i = some r) : fnsBad K k = some r := by
  unfold fnsBad fnBad
  rw [hf]
  simp only
  rw [if_pos h, firstBad_at hi hb hr]
theorem fns_last {K : KK} {k : Nat} {f : FF} (hf : K.funcs[k]? = some f) (h : headV k f = 0) (hb : ∀ j < f.ins.length, insBad K k f j = none) : fnsBad K k = if lastOk f = true then none else some (11, (k : Int), ((f.ins.length : Int) - 1)) := by
  unfold fnsBad fnBad
  rw [hf]
  simp only
  rw [if_pos h, firstBad_none hb]
theorem head_ok {k : Nat} {f : FF} (h : headV k f = 0) : nmB f.name.data.toList = true ∧ withinB f.params 0 4 = true ∧ withinB f.slots f.params 3000 = true ∧ withinB f.caps 0 200 = true ∧ 0 < f.ins.length ∧ f.ins.length ≤ 20000 ∧ ¬ (k = 0 ∧ (0 < f.params ∨ 0 < f.caps)) := by
  unfold headV headN at h
  split at h
  · cases h
  · rename_i h1
    split at h
    · cases h
    · rename_i h2
      split at h
      · cases h
      · rename_i h3
        split at h
        · cases h
        · rename_i h4
          split at h
          · cases h
          · rename_i h5
            simp only [not_or, Bool.not_eq_false] at h1 h2
            exact ⟨h1, h2.1, h2.2.1, h2.2.2, by omega, by omega, h3⟩
theorem cx_ok {k : Nat} {f : FF} {K : KK} {w : World} {B : Nat} {FA TA : Option Addr} (h : headV k f = 0) (hk : KR w B FA TA K) : CXok (cxOf K f) := by
  obtain ⟨_, h1, h2, h3, _, h4, _⟩ := head_ok h
  have a1 := within_ge h1
  have a2 := within_ge h2
  have a3 := within_ge h3
  exact ⟨⟨by show 0 ≤ f.slots; omega, a2.2⟩, a3, hk.fl, hk.tl, by show f.ins.length ≤ _; omega⟩
theorem insBad_of {K : KK} {k i : Nat} {f : FF} {x : II} (hx : f.ins[i]? = some x) : insBad K k f i = if insE K f x = 0 then none else some (insE K f x, (k : Int), (i : Int)) := by
  unfold insBad
  rw [hx]
theorem textBad_of {K : KK} {i : Nat} {s : ByteArray} (hs : K.texts[i]? = some s) : textBad K i = if quoE s = 0 then none else some (4, -1, (i : Int)) := by
  unfold textBad
  rw [hs]
theorem lastOk_of {f : FF} {n : Nat} {x : II} (hn : f.ins.length = n + 1) (hx : f.ins[n]? = some x) : lastOk f = (decide (x.o = 26) || decide (x.o = 29) || decide (x.o = 30)) := by
  unfold lastOk
  rw [hn, Nat.add_sub_cancel, hx]
theorem text_at {w : World} {B : Nat} {A : Option Addr} {T : List ByteArray} {n i : Nat} {s : ByteArray} (h : Rd w B 1 A n (T.map Value.string)) (hi : i < n) (hs : T[i]? = some s) : ∃ b off, A = some ⟨b, off, none⟩ ∧ b < B ∧ w.cell? ⟨b, off + i, none⟩ = some (.string s) := by
  obtain ⟨b, off, u, e, hb, hu, hc⟩ := h.at1 hi
  rw [List.getElem?_map, hs] at hu
  injection hu with hu
  subst hu
  exact ⟨b, off, e, hb, hc⟩
section
variable (FA TA : Option Addr) (fc tc : Nat) (K : KK)
set_option maxHeartbeats 8000000 in
theorem codeSound_any (nf nt : Nat) (w : World) (hnf : nf = K.funcs.length) (hnt : nt = K.texts.length) (hk : KR w w.heap.size FA TA K) : Calls Tryz.prog 20 #[.agg #[.slice FA nf fc, .slice TA nt tc]] w fun e w' => e = .returned (fixV (soundV K)) ∧ Below w.heap.size w w' := by
  have HNF := Lib.hid hnf
  have HNT := Lib.hid hnt
  have HK := Lib.hid hk
  clear hnf hnt hk
  by_cases h0 : nf = 0
  · have HV := Lib.hid (show soundV K = (16, -1, -1) by unfold soundV; rw [if_pos (by rw [← HNF.out]; exact h0)])
    have b0 : ((nf : Int) == 0) = true := by simpa using h0
    clear h0
    go_enter Tryz.func20, Tryz.ntmps20
    go_wp2_with fail
    refine bodyPost_ret (v := fixV (soundV K)) (by rw [HV.out]; simp [results, Tryz.results20, go_sem, fixV]) rfl ⟨rfl, sq (al _) (al _)⟩
  · have b0 : ((nf : Int) == 0) = false := by simpa using h0
    by_cases h1 : 400 < nf ∨ 2000 < nt
    · have HV := Lib.hid (show soundV K = (15, -1, -1) by unfold soundV; rw [if_neg (by rw [← HNF.out]; exact h0), if_pos (by rw [← HNF.out, ← HNT.out]; exact h1)])
      by_cases h2 : 400 < nf
      · have h2i : (400 : Int) < (nf : Int) := by omega
        clear h0 h1 h2
        go_enter Tryz.func20, Tryz.ntmps20
        go_wp2_with fail
        refine bodyPost_ret (v := fixV (soundV K)) (by rw [HV.out]; simp [results, Tryz.results20, go_sem, fixV]) rfl ⟨rfl, sq (al _) (al _)⟩
      · have h2i : ¬ (400 : Int) < (nf : Int) := by omega
        have h3i : (2000 : Int) < (nt : Int) := by omega
        clear h0 h1 h2
        go_enter Tryz.func20, Tryz.ntmps20
        go_wp2_with fail
        refine bodyPost_ret (v := fixV (soundV K)) (by rw [HV.out]; simp [results, Tryz.results20, go_sem, fixV]) rfl ⟨rfl, sq (al _) (al _)⟩
    · have h2i : ¬ (400 : Int) < (nf : Int) := by omega
      have h3i : ¬ (2000 : Int) < (nt : Int) := by omega
      have H0 := Lib.hid (show ¬ K.funcs.length = 0 by rw [← HNF.out]; exact h0)
      have H1 := Lib.hid (show ¬ (400 < K.funcs.length ∨ 2000 < K.texts.length) by rw [← HNF.out, ← HNT.out]; exact h1)
      clear h0 h1
      go_enter Tryz.func20, Tryz.ntmps20
      go_wp2_with fail
      generalize hw0 : World.alloc _ (Obj.cells #[Value.int .i64 0, Value.int .i64 0, Value.int .i64 0] _) = w0
      have HSX := Lib.hid (show SX FA TA nf nt fc tc w.heap.size w0 by subst hw0; exact SX.start)
      have HB0 := Lib.hid (show Below w.heap.size w w0 by subst hw0; exact sq (al _) (al _))
      have HLE := Lib.hid HB0.out.size
      clear hw0
      go_loopw [35] (fun v wr => ∃ i : Nat, v = .int .i64 (i : Int) ∧ i ≤ nt ∧ Hid (∀ j, j < i → textBad K j = none) ∧ Below w0.heap.size w0 wr) (fun v _ => nt - (intOf v).toNat)
      case atStart => exact ⟨0, rfl, by omega, Lib.hid (fun j hj => by omega), Below.refl _ _⟩
      case round =>
        obtain ⟨i, rfl, hi, HOK, hbel⟩ := hrel
        have HBE := Lib.hid hbel
        have HSR := Lib.hid (HSX.out.into hbel)
        clear hbel
        by_cases hlt : i < nt
        · have hit : i < K.texts.length := by have := HNT.out; omega
          have hti := List.getElem?_eq_getElem hit
          have HBIG := Lib.hid (HK.out.big K.texts[i] (List.getElem_mem _))
          have HTB := Lib.hid (textBad_of hti)
          obtain ⟨tb, toff, rfl, htb, htc⟩ := text_at (HK.out.into (HB0.out.trans (HBE.out.mono HLE.out))).tx hit hti
          generalize K.texts[i] = s at *
          have hlti : (i : Int) < (nt : Int) := by omega
          have HIT := Lib.hid hit
          clear hti hit
          go_wp2_with fail
          refine (scanQuote_any s HBIG.out _).mono ?_
          rintro e w2 ⟨rfl, hb2⟩
          rw [quoV_eq]
          have HB2 := Lib.hid (HBE.out.trans (hb2.mono HBE.out.size))
          have HS2 := Lib.hid (HSR.out.into hb2)
          clear hb2
          by_cases he : quoE s = 0
          · have be : (quoE s != 0) = false := by simpa using he
            have HOK2 := Lib.hid (show ∀ j, j < i + 1 → textBad K j = none from fun j hj => by
              rcases Nat.lt_or_ge j i with h3 | h3
              · exact HOK.out j h3
              · obtain rfl : j = i := by omega
                rw [HTB.out, if_pos he])
            clear he
            generalize quoE s = qe at *
            generalize quoT s = qt at *
            go_wp2_with fail
            go_roundw
            case rel => exact ⟨i + 1, by go_num, by omega, HOK2, HB2.out⟩
            case measure => simp [intOf]; omega
          · have be : (quoE s != 0) = true := by simpa using he
            have HV := Lib.hid (sound_text H0.out H1.out HIT.out HOK.out (HTB.out.trans (if_neg he)))
            clear he
            generalize quoE s = qe at *
            generalize quoT s = qt at *
            obtain ⟨z, p0, p1, r0, r1, r2, z0, z1, z2⟩ := HS2.out
            go_wp2_with fail
            refine bodyPost_ret (v := fixV (soundV K)) (by rw [HV.out]; simp [results, Tryz.results20, go_sem, fixV, r0, r1, r2]) rfl ⟨rfl, below_res (HB0.out.trans (HB2.out.mono HLE.out)) _ _ _⟩
        · obtain rfl : i = nt := by omega
          have HT := Lib.hid (show ∀ j < K.texts.length, textBad K j = none from fun j hj => HOK.out j (by have := HNT.out; omega))
          obtain ⟨z, p0, p1, r0, r1, r2, z0, z1, z2⟩ := HSR.out
          go_wp2_with fail
          have HBT := Lib.hid (HB0.out.trans (HBE.out.mono HLE.out))
          have HST := HSR
          clear HOK HBE HSR hlt hi HSX HB0 HLE z p0 p1 r0 r1 r2 z0 z1 z2
          have HLT := Lib.hid HBT.out.size
          obtain ⟨wt, rfl⟩ : ∃ wt : World, wt = wr := ⟨_, rfl⟩
          go_loopw [53] (fun v wq => ∃ k : Nat, v = .int .i64 (k : Int) ∧ k ≤ nf ∧ Hid (∀ j, j < k → fnsBad K j = none) ∧ Below wt.heap.size wt wq) (fun v _ => nf - (intOf v).toNat)
          case atStart => exact ⟨0, rfl, by omega, Lib.hid (fun j hj => by omega), Below.refl _ _⟩
          case round =>
            obtain ⟨k, rfl, hkn, HOK, hbel⟩ := hrel
            obtain ⟨wo, rfl⟩ : ∃ wo : World, wo = wr := ⟨_, rfl⟩
            have HBE := Lib.hid hbel
            have HSR := Lib.hid (HST.out.into hbel)
            have HBW := Lib.hid (HBT.out.trans (hbel.mono HLT.out))
            have HKW := Lib.hid (HK.out.into HBW.out)
            clear hbel
            by_cases hlt : k < nf
            · have hkt : k < K.funcs.length := by have := HNF.out; omega
              have HFK := Lib.hid (List.getElem?_eq_getElem hkt)
              have HIL := Lib.hid (HK.out.il K.funcs[k] (List.getElem_mem _))
              obtain ⟨⟨fb, foff, IA, ic, hFA, hfb, f0, f1, f2, f3, f4, hic, hicm, ess, hri, hai⟩, _⟩ := HKW.out.fn k _ HFK.out
              subst hFA
              have HFB := Lib.hid (Nat.lt_of_lt_of_le hfb HBW.out.size)
              have hfbl : fb < wo.heap.size := HFB.out
              have hlti : (k : Int) < (nf : Int) := by omega
              have HKT := Lib.hid hkt
              have HRI := Lib.hid hri
              have HAI := Lib.hid hai
              have HHV := Lib.hid (show headV k K.funcs[k] = headN k K.funcs[k].name.data.toList K.funcs[k].params K.funcs[k].slots K.funcs[k].caps K.funcs[k].ins.length from rfl)
              generalize hf : K.funcs[k] = f at *
              obtain ⟨ni, hni⟩ : ∃ ni, ni = f.ins.length := ⟨_, rfl⟩
              rw [← hni] at f4 HHV HIL hic
              have HNI := Lib.hid hni
              have HHD := Lib.hid (fun W => head_any k f.name f.params f.slots f.caps IA ni ic W)
              have HX := Lib.hid (fun h => cx_ok (k := k) (f := f) h HK.out)
              have HINS := Lib.hid (fun (x : II) W hx hc => ins_any (some ⟨fb, foff, none⟩) TA IA fc tc ic f.name f.params ⟨nf, i, ni, f.slots, f.caps, fun n => ((K.funcs[n]?).map FF.caps).getD 0⟩ x.o x.a x.b x.c x.d x.e W hx hc)
              unfold judgeV at HINS
              simp only at HINS
              clear hkt hri hai hni hf hfb hic hicm
              obtain ⟨z, p0, p1, r0, r1, r2, z0, z1, z2⟩ := HSR.out
              go_wp2_with fail
              refine (HHD.out _).mono ?_
              rintro e w2 ⟨rfl, hb2⟩
              rw [← HHV.out]
              have kb := boxed1 hb2
              have q0 : w2.cell? ⟨wo.heap.size, 0, none⟩ = some (.string f.name) := kb 0 _ rfl
              have q1 : w2.cell? ⟨wo.heap.size, 1, none⟩ = some (.int .i64 f.params) := kb 1 _ rfl
              have q2 : w2.cell? ⟨wo.heap.size, 2, none⟩ = some (.int .i64 f.slots) := kb 2 _ rfl
              have q3 : w2.cell? ⟨wo.heap.size, 3, none⟩ = some (.int .i64 f.caps) := kb 3 _ rfl
              have q4 : w2.cell? ⟨wo.heap.size, 4, none⟩ = some (.slice IA ni ic) := kb 4 _ rfl
              have HZF := Lib.hid (show wo.heap.size < w2.heap.size by have := hb2.size; simp at this; omega)
              have hzf : wo.heap.size < w2.heap.size := HZF.out
              have HB2 := Lib.hid (sq (al _) hb2)
              have HS2 := Lib.hid (HSR.out.into HB2.out)
              clear z p0 p1 r0 r1 r2 z0 z1 z2 hb2 kb f0 f1 f2 f3 f4
              obtain ⟨z, p0, p1, r0, r1, r2, z0, z1, z2⟩ := HS2.out
              by_cases hh : headV k f = 0
              · have bh : (headV k f != 0) = false := by simpa using hh
                have HH0 := Lib.hid hh
                clear hh
                generalize hhv : headV k f = hv at bh
                have HHN := Lib.hid hhv
                clear hhv
                go_wp2_with fail
                generalize hw5 : World.alloc w2 _ = w5
                have HJ := Lib.hid (show JF (some ⟨fb, foff, none⟩) TA IA fc tc ic f.name f.params f.slots f.caps nf i ni wo.heap.size w2.heap.size w5 by
                  subst hw5
                  exact ⟨by simp, by simp; omega, (World.cell?_alloc_lt w2 _ ⟨wo.heap.size, 4, none⟩ hzf).trans q4, by simp [go_sem], by simp [go_sem], by simp [go_sem], by simp [go_sem], by simp [go_sem], by simp [go_sem], by simp [go_sem]⟩)
                have HB5 := Lib.hid (show Below wo.heap.size wo w5 by subst hw5; exact sq HB2.out (al _))
                have HS5 := Lib.hid (show SX (some ⟨fb, foff, none⟩) TA nf i fc tc w.heap.size w5 by subst hw5; exact HS2.out.into (al _))
                clear hw5 q0 q1 q2 q3 q4 z p0 p1 r0 r1 r2 z0 z1 z2 hzf
                have HOKH := Lib.hid (head_ok HH0.out)
                have HL5 := Lib.hid HB5.out.size
                have hni20 : ni ≤ 20000 := by
                  obtain ⟨_, _, _, _, _, h, _⟩ := HOKH.out
                  rwa [← HNI.out] at h
                go_loopw [72] (fun v wq => ∃ n : Nat, v = .int .i64 (n : Int) ∧ n ≤ ni ∧ Hid (∀ j, j < n → insBad K k f j = none) ∧ Below w5.heap.size w5 wq) (fun v _ => ni - (intOf v).toNat)
                case atStart => exact ⟨0, rfl, by omega, Lib.hid (fun j hj => by omega), Below.refl _ _⟩
                case round =>
                  obtain ⟨n, rfl, hnn, HOKI, hbel⟩ := hrel
                  have HBQ := Lib.hid hbel
                  have HSQ := Lib.hid (HS5.out.into hbel)
                  have HJQ := Lib.hid (HJ.out.into hbel)
                  have HBRQ := Lib.hid (HB5.out.trans (hbel.mono HL5.out))
                  have HWQ := Lib.hid (HBW.out.trans (HBRQ.out.mono HBW.out.size))
                  clear hbel
                  have hri := HRI.out.keep (w' := wr) (fun p hp => HBRQ.out.cell (Nat.lt_of_lt_of_le hp HBW.out.size))
                  have hai := HAI.out.keep (w' := wr) (fun p hp => HBRQ.out.cell (Nat.lt_of_lt_of_le hp HBW.out.size))
                  by_cases hlt3 : n < ni
                  · have hnt : n < f.ins.length := by have := HNI.out; omega
                    have hx := List.getElem?_eq_getElem hnt
                    obtain ⟨ib, ioff, rfl, hib, e0, e1, e2, e3, e4, e5⟩ := ins_at hri hai rfl hx
                    have hibl : ib < wr.heap.size := Nat.lt_of_lt_of_le hib HWQ.out.size
                    have HIB := Lib.hid (insBad_of (K := K) (k := k) hx)
                    generalize f.ins[n] = x at *
                    have HIE := Lib.hid (show insE K f x = insV ⟨nf, i, ni, f.slots, f.caps, fun n => ((K.funcs[n]?).map FF.caps).getD 0⟩ x.o x.a x.b x.c x.d x.e by
                      unfold insE cxOf
                      rw [← HNF.out, ← HNT.out, ← HNI.out])
                    have HC := Lib.hid (fun W (hW : Below wr.heap.size wr W) => HINS.out x W (by
                      have := HX.out HH0.out
                      unfold cxOf at this
                      rwa [← HNF.out, ← HNT.out, ← HNI.out] at this) (by
                      have := (HK.out.into (HWQ.out.trans (hW.mono HWQ.out.size))).caps (Nat.le_trans HWQ.out.size hW.size)
                      rwa [← HNF.out] at this))
                    have hlt3i : (n : Int) < (ni : Int) := by omega
                    have HNT3 := Lib.hid hnt
                    clear hri hai hx hnt hib
                    obtain ⟨x0, x1, x2, x3, x4, x5⟩ := x
                    simp only at e0 e1 e2 e3 e4 e5 HIE HC
                    obtain ⟨zj, zf, q4, j0, j1, j2, j3, j4, j5, j6⟩ := HJQ.out
                    go_wp2_with fail
                    refine (HC.out _ (al _)).mono ?_
                    rintro e w7 ⟨rfl, hb7⟩
                    rw [← HIE.out]
                    have HB7 := Lib.hid (sq (al _) hb7)
                    have HS7 := Lib.hid (HSQ.out.into HB7.out)
                    clear hb7 e0 e1 e2 e3 e4 e5 zj zf q4 j0 j1 j2 j3 j4 j5 j6
                    by_cases hz : insE K f ⟨x0, x1, x2, x3, x4, x5⟩ = 0
                    · have bz : (insE K f ⟨x0, x1, x2, x3, x4, x5⟩ != 0) = false := by simpa using hz
                      have HOK2 := Lib.hid (show ∀ j, j < n + 1 → insBad K k f j = none from fun j hj => by
                        rcases Nat.lt_or_ge j n with h3 | h3
                        · exact HOKI.out j h3
                        · obtain rfl : j = n := by omega
                          rw [HIB.out, if_pos hz])
                      clear hz HIB HIE
                      generalize insE K f ⟨x0, x1, x2, x3, x4, x5⟩ = ie at *
                      go_wp2_with fail
                      go_roundw
                      case rel => exact ⟨n + 1, by go_num, by omega, HOK2, HBQ.out.trans (HB7.out.mono HBQ.out.size)⟩
                      case measure => simp [intOf]; omega
                    · have bz : (insE K f ⟨x0, x1, x2, x3, x4, x5⟩ != 0) = true := by simpa using hz
                      have HV := Lib.hid (sound_fn H0.out H1.out HT.out HKT.out HOK.out (fns_ins HFK.out HH0.out HNT3.out HOKI.out (HIB.out.trans (if_neg hz))))
                      clear hz HIB HIE
                      generalize insE K f ⟨x0, x1, x2, x3, x4, x5⟩ = ie at *
                      obtain ⟨z, p0, p1, r0, r1, r2, z0, z1, z2⟩ := HS7.out
                      go_wp2_with fail
                      refine bodyPost_ret (v := fixV (soundV K)) (by rw [HV.out]; simp [results, Tryz.results20, go_sem, fixV, r0, r1, r2]) rfl ⟨rfl, below_res (HWQ.out.trans (HB7.out.mono HWQ.out.size)) _ _ _⟩
                  · obtain rfl : n = ni := by omega
                    obtain ⟨_, _, _, _, hn0, hn20, _⟩ := HOKH.out
                    rw [← HNI.out] at hn0 hn20
                    have hn0i : (0 : Int) < (n : Int) := by omega
                    have hnm : n - 1 < f.ins.length := by have := HNI.out; omega
                    have hx := List.getElem?_eq_getElem hnm
                    obtain ⟨ib, ioff, rfl, hib, e0, _⟩ := ins_at hri hai rfl hx
                    have HLO := Lib.hid (lastOk_of (n := n - 1) (f := f) (by have := HNI.out; omega) hx)
                    have HFL := Lib.hid (fns_last (K := K) HFK.out HH0.out (fun j hj => HOKI.out j (by have := HNI.out; omega)))
                    rw [HLO.out, ← HNI.out] at HFL
                    generalize f.ins[n - 1] = x at *
                    obtain ⟨xo, x1, x2, x3, x4, x5⟩ := x
                    simp only at e0 HFL
                    clear hri hai hx hnm hib HLO
                    obtain ⟨zj, zf, q4, j0, j1, j2, j3, j4, j5, j6⟩ := HJQ.out
                    obtain ⟨z, p0, p1, r0, r1, r2, z0, z1, z2⟩ := HSQ.out
                    by_cases ho : xo = 26 ∨ xo = 29 ∨ xo = 30
                    · have HOK2 := Lib.hid (show ∀ j, j < k + 1 → fnsBad K j = none from fun j hj => by
                        rcases Nat.lt_or_ge j k with h3 | h3
                        · exact HOK.out j h3
                        · obtain rfl : j = k := by omega
                          rw [HFL.out, if_pos]
                          rcases ho with rfl | rfl | rfl <;> rfl)
                      rcases ho with rfl | rfl | rfl
                      all_goals
                        go_wp2_with fail
                        go_roundw
                        case rel => exact ⟨k + 1, by go_num, by omega, HOK2, HBE.out.trans (HBRQ.out.mono HBE.out.size)⟩
                        case measure => simp [intOf]; omega
                    · have b1 : (xo != 26) = true := by simp; omega
                      have b2 : (xo != 29) = true := by simp; omega
                      have b3 : (xo != 30) = true := by simp; omega
                      have HV := Lib.hid (sound_fn H0.out H1.out HT.out HKT.out HOK.out (HFL.out.trans (if_neg (by simp; omega))))
                      clear ho
                      go_wp2_with fail
                      refine bodyPost_ret (v := fixV (soundV K)) (by rw [HV.out]; simp [results, Tryz.results20, go_sem, fixV, r0, r1, r2]) rfl ⟨rfl, below_res HWQ.out _ _ _⟩
              · have bh : (headV k f != 0) = true := by simpa using hh
                have HT2 := Lib.hid (show ∀ j < K.texts.length, textBad K j = none from HT.out)
                have HV := Lib.hid (sound_fn H0.out H1.out HT.out HKT.out HOK.out (fns_head HFK.out hh))
                clear hh
                generalize headV k f = hv at *
                go_wp2_with fail
                refine bodyPost_ret (v := fixV (soundV K)) (by rw [HV.out]; simp [results, Tryz.results20, go_sem, fixV, r0, r1, r2]) rfl ⟨rfl, below_res (HBW.out.trans (HB2.out.mono HBW.out.size)) _ _ _⟩
            · obtain rfl : k = nf := by omega
              have HV := Lib.hid (sound_ok H0.out H1.out HT.out (fun j hj => HOK.out j (by have := HNF.out; omega)))
              obtain ⟨z, p0, p1, r0, r1, r2, z0, z1, z2⟩ := HSR.out
              go_wp2_with fail
              refine bodyPost_ret (v := fixV (soundV K)) (by rw [HV.out]; simp [results, Tryz.results20, go_sem, fixV, r0, r1, r2]) rfl ⟨rfl, below_res HBW.out _ _ _⟩
end
end Go.Proofs.YtjegfimagjmpdaaGreatDoor
