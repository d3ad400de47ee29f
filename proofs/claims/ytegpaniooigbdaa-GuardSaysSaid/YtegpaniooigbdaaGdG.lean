/- 'guard.Guard'. Conditions: the code fits what comes in. -/
import Derived.Test.YtegpaniooigbdaaGdS
import Derived.Test.YtegpaniooigbdaaCdS
set_option maxRecDepth 100000
namespace Go.Proofs.Ytegpaniooigbdaa
open Go.ChangeShapes Go.WideShapes Go.ChangeAt Go.RowKit
def gBad (f : FF) (k i : Nat) : Option (Int × Int × Int) := if rightB f.ins i = true then none else some (19, (k : Int), (i : Int))
def guardFn (K : KK) (k : Nat) : Option (Int × Int × Int) := match K.funcs[k]? with | some f => firstBad f.ins.length (gBad f k) | none => none
def guardV (K : KK) : Int × Int × Int :=
  if (soundV K).1 = 0 then (match firstBad K.funcs.length (guardFn K) with | some r => r | none => (0, 0, 0)) else soundV K
theorem fnBad_ne {K : KK} {k : Nat} {f : FF} {r : Int × Int × Int} (h : fnBad K k f = some r) : r.1 ≠ 0 := by
  unfold fnBad at h
  split at h
  · split at h
    · rename_i r' hr
      injection h with h
      subst h
      unfold firstBad at hr
      obtain ⟨i, _, hi⟩ := List.exists_of_findSome?_eq_some hr
      unfold insBad at hi
      split at hi
      · split at hi
        · cases hi
        · rename_i hne
          injection hi with hi
          rw [← hi]
          exact hne
      · cases hi
    · split at h
      · cases h
      · injection h with h
        rw [← h]
        show (11 : Int) ≠ 0
        decide
  · rename_i hne
    injection h with h
    rw [← h]
    exact hne
theorem sound_zero {K : KK} (h : (soundV K).1 = 0) : ∀ k f, K.funcs[k]? = some f → fnBad K k f = none := by
  unfold soundV at h
  split at h
  · cases h
  · split at h
    · cases h
    · split at h
      · rename_i r hr
        exfalso
        unfold firstBad at hr
        obtain ⟨i, _, hi⟩ := List.exists_of_findSome?_eq_some hr
        unfold textBad at hi
        split at hi
        · split at hi
          · cases hi
          · injection hi with hi
            rw [← hi] at h
            cases h
        · cases hi
      · split at h
        · rename_i r hr
          exfalso
          unfold firstBad at hr
          obtain ⟨i, _, hi⟩ := List.exists_of_findSome?_eq_some hr
          unfold fnsBad at hi
          split at hi
          · exact fnBad_ne hi h
          · cases hi
        · rename_i hr
          intro k f hf
          unfold firstBad at hr
          rw [List.findSome?_eq_none_iff] at hr
          obtain ⟨hk, _⟩ := List.getElem?_eq_some_iff.1 hf
          have := hr k (List.mem_range.2 hk)
          unfold fnsBad at this
          rw [hf] at this
          exact this
theorem sound_head {K : KK} (h : (soundV K).1 = 0) {k : Nat} {f : FF} (hf : K.funcs[k]? = some f) : headV k f = 0 := by
  have := sound_zero h k f hf
  unfold fnBad at this
  split at this
  · assumption
  · cases this
theorem guard_at {K : KK} (h : (soundV K).1 = 0) {k : Nat} {f : FF} (hf : K.funcs[k]? = some f) (hb : ∀ j < k, guardFn K j = none) {i : Nat} (hi : i < f.ins.length) (hbi : ∀ j < i, gBad f k j = none) (hr : rightB f.ins i = false) : guardV K = (19, (k : Int), (i : Int)) := by
  unfold guardV
  obtain ⟨hk, _⟩ := List.getElem?_eq_some_iff.1 hf
  rw [if_pos h, firstBad_at hk hb (show guardFn K k = some (19, (k : Int), (i : Int)) by
    unfold guardFn
    rw [hf]
    exact firstBad_at hi hbi (by unfold gBad; rw [hr]; rfl))]
theorem guard_none {K : KK} (h : (soundV K).1 = 0) (hb : ∀ j < K.funcs.length, guardFn K j = none) : guardV K = (0, 0, 0) := by
  unfold guardV
  rw [if_pos h, firstBad_none hb]
theorem guardFn_none {K : KK} {k : Nat} {f : FF} (hf : K.funcs[k]? = some f) (h : ∀ j < f.ins.length, gBad f k j = none) : guardFn K k = none := by
  unfold guardFn
  rw [hf]
  exact firstBad_none h
theorem guard_bad {K : KK} (h : ¬ (soundV K).1 = 0) : guardV K = soundV K := by unfold guardV; rw [if_neg h]
theorem res_cells {wr : World} {g : Nat} {x0 x1 x2 : Value} (o : Obj) (z : g < wr.heap.size) (r0 : wr.cell? ⟨g, 0, none⟩ = some x0) (r1 : wr.cell? ⟨g, 1, none⟩ = some x1) (r2 : wr.cell? ⟨g, 2, none⟩ = some x2) (a b c : Value) :
    ((((wr.setCell ⟨g, 0, none⟩ a).setCell ⟨g, 1, none⟩ b).setCell ⟨g, 2, none⟩ c).alloc o).cell? ⟨g, 0, none⟩ = some a ∧ ((((wr.setCell ⟨g, 0, none⟩ a).setCell ⟨g, 1, none⟩ b).setCell ⟨g, 2, none⟩ c).alloc o).cell? ⟨g, 1, none⟩ = some b ∧ ((((wr.setCell ⟨g, 0, none⟩ a).setCell ⟨g, 1, none⟩ b).setCell ⟨g, 2, none⟩ c).alloc o).cell? ⟨g, 2, none⟩ = some c := by
  refine ⟨(World.cell?_alloc_lt _ o ⟨g, 0, none⟩ (by simpa using z)).trans (by simp [go_sem, r0]), (World.cell?_alloc_lt _ o ⟨g, 1, none⟩ (by simpa using z)).trans (by simp [go_sem, r1]), (World.cell?_alloc_lt _ o ⟨g, 2, none⟩ (by simpa using z)).trans (by simp [go_sem, r2])⟩
/-- The function's cells. -/
structure GX (IA : Option Addr) (ic : Nat) (nm : ByteArray) (pa sl ca : Int) (ni gf : Nat) (w : World) : Prop where
  zf : gf < w.heap.size
  q0 : w.cell? ⟨gf, 0, none⟩ = some (.string nm)
  q1 : w.cell? ⟨gf, 1, none⟩ = some (.int .i64 pa)
  q2 : w.cell? ⟨gf, 2, none⟩ = some (.int .i64 sl)
  q3 : w.cell? ⟨gf, 3, none⟩ = some (.int .i64 ca)
  q4 : w.cell? ⟨gf, 4, none⟩ = some (.slice IA ni ic)
theorem GX.into {IA : Option Addr} {ic : Nat} {nm : ByteArray} {pa sl ca : Int} {ni gf : Nat} {w w' : World} (h : GX IA ic nm pa sl ca ni gf w) (hb : Below w.heap.size w w') : GX IA ic nm pa sl ca ni gf w' := by
  have l := h.zf
  exact ⟨Nat.lt_of_lt_of_le l hb.size, (hb.cell (p := ⟨gf, _, none⟩) l).trans h.q0, (hb.cell (p := ⟨gf, _, none⟩) l).trans h.q1, (hb.cell (p := ⟨gf, _, none⟩) l).trans h.q2, (hb.cell (p := ⟨gf, _, none⟩) l).trans h.q3, (hb.cell (p := ⟨gf, _, none⟩) l).trans h.q4⟩
section
variable (FA TA : Option Addr) (fc tc : Nat) (K : KK)
set_option maxHeartbeats 4000000 in
theorem guard_any (nf nt : Nat) (w : World) (hnf : nf = K.funcs.length) (hnt : nt = K.texts.length) (hk : KR w w.heap.size FA TA K) : Calls Try.prog 37 #[.agg #[.slice FA nf fc, .slice TA nt tc]] w fun e w' => e = .returned (fixV (guardV K)) ∧ Below w.heap.size w w' := by
  have HNF := Lib.hid hnf
  have HNT := Lib.hid hnt
  have HK := Lib.hid hk
  have HSD := Lib.hid (fun W (hW : Below w.heap.size w W) => codeSound_any FA TA fc tc K nf nt W HNF.out HNT.out ((HK.out.into hW).more hW.size))
  have HG0 := Lib.hid (@guard_bad K)
  have HG1 := Lib.hid (fun h k f hf => @sound_head K h k f hf)
  have HG2 := Lib.hid (fun h k f hf hb i hi hbi hr => @guard_at K h k f hf hb i hi hbi hr)
  have HG3 := Lib.hid (fun h hb => @guard_none K h hb)
  clear hnf hnt hk
  have hfl : nf ≤ 140737488351232 := by have := HK.out.fl; have := HNF.out; omega
  generalize soundV K = sv at *
  obtain ⟨s0, s1, s2⟩ := sv
  unfold fixV at HSD
  simp only at HSD HG0 HG1 HG2 HG3
  go_enter Try.func37, Try.ntmps37
  go_wp2_with fail
  have HSX := Lib.hid (SX.start (FA := FA) (TA := TA) (nf := nf) (nt := nt) (fc := fc) (tc := tc) (w := w) (ta := 71) (tb := 85))
  refine (HSD.out _ (sq (al _) (al _))).mono ?_
  rintro e w1 ⟨rfl, hb1⟩
  have HS1 := Lib.hid (HSX.out.into hb1)
  have HB1 := Lib.hid (sq (sq (al _) (al _)) hb1)
  clear hb1 HSX HSD
  by_cases h0 : s0 = 0
  · have b0 : (s0 != 0) = false := by simpa using h0
    have H0 := Lib.hid h0
    clear h0
    obtain ⟨z, p0, p1, r0, r1, r2, z0, z1, z2⟩ := HS1.out
    have zz : w.heap.size < w1.heap.size := by omega
    go_wp2_with fail
    generalize hw2 : World.alloc w1 _ = w2
    have HST := Lib.hid (show SX FA TA nf nt fc tc w.heap.size w2 by subst hw2; exact HS1.out.into (al _))
    have HBT := Lib.hid (show Below w.heap.size w w2 by subst hw2; exact al2 HB1.out _)
    have HLT := Lib.hid HBT.out.size
    clear hw2 z p0 p1 r0 r1 r2 z0 z1 z2 zz
    go_loopw [17] (fun v wq => ∃ k : Nat, v = .int .i64 (k : Int) ∧ k ≤ nf ∧ Hid (∀ j, j < k → guardFn K j = none) ∧ Below w2.heap.size w2 wq) (fun v _ => nf - (intOf v).toNat)
    case atStart => exact ⟨0, rfl, by omega, Lib.hid (fun j hj => by omega), Below.refl _ _⟩
    case round =>
      obtain ⟨k, rfl, hkn, HOK, hbel⟩ := hrel
      obtain ⟨wo, rfl⟩ : ∃ wo : World, wo = wr := ⟨_, rfl⟩
      have HBE := Lib.hid hbel
      have HSR := Lib.hid (HST.out.into hbel)
      have HBW := Lib.hid (HBT.out.trans (hbel.mono HLT.out))
      have HKW := Lib.hid (HK.out.into HBW.out)
      clear hbel
      by_cases hlt : k < nf
      · have hkt : k < K.funcs.length := by have := HNF.out; omega
        have HFK := Lib.hid (List.getElem?_eq_getElem hkt)
        obtain ⟨⟨fb, foff, IA, ic, hFA, hfb, f0, f1, f2, f3, f4, hic, hicm, ess, hri, hai⟩, _⟩ := HKW.out.fn k _ HFK.out
        subst hFA
        have hfbl : fb < wo.heap.size := Nat.lt_of_lt_of_le hfb HBW.out.size
        have hlti : (k : Int) < (nf : Int) := by omega
        have HRI := Lib.hid hri
        have HAI := Lib.hid hai
        generalize hf : K.funcs[k] = f at *
        obtain ⟨ni, hni⟩ : ∃ ni, ni = f.ins.length := ⟨_, rfl⟩
        rw [← hni] at f4 HRI
        have HNI := Lib.hid hni
        have hni20 : ni ≤ 20000 := by
          obtain ⟨_, _, _, _, _, h, _⟩ := head_ok (HG1.out H0.out k f HFK.out)
          rw [hni]; exact h
        have HTG := Lib.hid (fun W (hW : Below wo.heap.size wo W) => targets_any f.name f.params f.slots f.caps IA ni ic f.ins w.heap.size W (Nat.le_trans HBW.out.size hW.size) HNI.out hni20 ess (HRI.out.keep fun p hp => hW.cell (Nat.lt_of_lt_of_le hp HBW.out.size)) (HAI.out.keep fun p hp => hW.cell (Nat.lt_of_lt_of_le hp HBW.out.size)))
        clear hkt hri hai hni hf hfb hic hicm
        obtain ⟨z, p0, p1, r0, r1, r2, z0, z1, z2⟩ := HSR.out
        go_wp2_with fail
        refine (HTG.out _ (al _)).mono ?_
        rintro e w3 ⟨gb, rfl, hm3, hb3⟩
        have kb := boxed1 hb3
        have HJ := Lib.hid (show GX IA ic f.name f.params f.slots f.caps ni wo.heap.size w3 from ⟨by have := hb3.size; simp at this; omega, kb 0 _ rfl, kb 1 _ rfl, kb 2 _ rfl, kb 3 _ rfl, kb 4 _ rfl⟩)
        have HB3 := Lib.hid (sq (al _) hb3)
        have HS3 := Lib.hid (HSR.out.into HB3.out)
        have HM3 := Lib.hid hm3
        have HL3 := Lib.hid HB3.out.size
        clear hb3 kb hm3 z p0 p1 r0 r1 r2 z0 z1 z2 f0 f1 f2 f3 f4 HTG
        obtain ⟨zf, q0, q1, q2, q3, q4⟩ := HJ.out
        go_wp2_with fail
        clear zf q0 q1 q2 q3 q4
        go_loopw [27] (fun v wq => ∃ n : Nat, v = .int .i64 (n : Int) ∧ n ≤ ni ∧ Hid (∀ j, j < n → gBad f k j = none) ∧ Below w3.heap.size w3 wq) (fun v _ => ni - (intOf v).toNat)
        case atStart => exact ⟨0, rfl, by omega, Lib.hid (fun j hj => by omega), Below.refl _ _⟩
        case round =>
          obtain ⟨n, rfl, hnn, HOKI, hbel⟩ := hrel
          have HBQ := Lib.hid hbel
          have HSQ := Lib.hid (HS3.out.into hbel)
          have HJQ := Lib.hid (HJ.out.into hbel)
          have HMQ := Lib.hid (HM3.out.below hbel HM3.out.lt)
          have HBRQ := Lib.hid (HB3.out.trans (hbel.mono HL3.out))
          have HWQ := Lib.hid (HBW.out.trans (HBRQ.out.mono HBW.out.size))
          clear hbel
          by_cases hlt3 : n < ni
          · have hlt3i : (n : Int) < (ni : Int) := by omega
            have HC := Lib.hid (right_any f.name f.params f.slots f.caps IA ni ic f.ins w.heap.size n gb wr HWQ.out.size HNI.out hni20 hlt3 ess (HRI.out.keep fun p hp => HBRQ.out.cell (Nat.lt_of_lt_of_le hp HBW.out.size)) (HAI.out.keep fun p hp => HBRQ.out.cell (Nat.lt_of_lt_of_le hp HBW.out.size)) HMQ.out)
            obtain ⟨zf, q0, q1, q2, q3, q4⟩ := HJQ.out
            go_wp2_with fail
            refine HC.out.mono ?_
            rintro e w7 ⟨rfl, hb7⟩
            have HB7 := Lib.hid hb7
            have HS7 := Lib.hid (HSQ.out.into hb7)
            clear hb7 zf q0 q1 q2 q3 q4 HC
            cases hz : rightB f.ins n with
            | true =>
              have HOK2 := Lib.hid (show ∀ j, j < n + 1 → gBad f k j = none from fun j hj => by
                rcases Nat.lt_or_ge j n with h3 | h3
                · exact HOKI.out j h3
                · obtain rfl : j = n := by omega
                  unfold gBad
                  rw [hz]
                  rfl)
              clear hz
              go_wp2_with fail
              go_roundw
              case rel => exact ⟨n + 1, by go_num, by omega, HOK2, HBQ.out.trans (HB7.out.mono HBQ.out.size)⟩
              case measure => simp [intOf]; omega
            | false =>
              have HV := Lib.hid (HG2.out H0.out k f HFK.out HOK.out n (by have := HNI.out; omega) HOKI.out hz)
              clear hz
              obtain ⟨z, p0, p1, r0, r1, r2, z0, z1, z2⟩ := HS7.out
              go_wp2_with fail
              refine bodyPost_ret (v := fixV (guardV K)) (by rw [HV.out]; simp [results, Try.results37, go_sem, fixV, r0, r1, r2]) rfl ⟨rfl, below_res (HWQ.out.trans (HB7.out.mono HWQ.out.size)) _ _ _⟩
          · obtain rfl : n = ni := by omega
            have HOK2 := Lib.hid (show ∀ j, j < k + 1 → guardFn K j = none from fun j hj => by
              rcases Nat.lt_or_ge j k with h3 | h3
              · exact HOK.out j h3
              · obtain rfl : j = k := by omega
                exact guardFn_none HFK.out (fun j hj => HOKI.out j (by have := HNI.out; omega)))
            go_wp2_with fail
            go_roundw
            case rel => exact ⟨k + 1, by go_num, by omega, HOK2, HBE.out.trans (HBRQ.out.mono HBE.out.size)⟩
            case measure => simp [intOf]; omega
      · obtain rfl : k = nf := by omega
        have HV := Lib.hid (HG3.out H0.out (fun j hj => HOK.out j (by have := HNF.out; omega)))
        obtain ⟨z, p0, p1, r0, r1, r2, z0, z1, z2⟩ := HSR.out
        go_wp2_with fail
        refine bodyPost_ret (v := fixV (guardV K)) (by rw [HV.out]; simp [results, Try.results37, go_sem, fixV, r0, r1, r2]) rfl ⟨rfl, below_res HBW.out _ _ _⟩
  · have b0 : (s0 != 0) = true := by simpa using h0
    have HV := Lib.hid (HG0.out h0)
    clear h0
    obtain ⟨z, p0, p1, r0, r1, r2, z0, z1, z2⟩ := HS1.out
    have zz : w.heap.size < w1.heap.size := by omega
    go_wp2_with fail
    obtain ⟨k0, k1, k2⟩ := res_cells (.cells #[.int .i64 s0, .int .i64 s1, .int .i64 s2] 85) z r0 r1 r2 (.int .i64 s0) (.int .i64 s1) (.int .i64 s2)
    refine bodyPost_ret (v := fixV (guardV K)) (by rw [HV.out]; simp [results, Try.results37, go_sem, fixV, k0, k1, k2]) rfl ⟨rfl, al2 (below_res HB1.out _ _ _) _⟩
end
end Go.Proofs.Ytegpaniooigbdaa
