/- The document's 'Pack': its closure, and itself. Conditions: the code fits what comes in. -/
import Derived.Test.YtgcedkioanolcaaIpC
import Derived.Test.YtgcedkioanolcaaCdT
import Derived.Deep.CutRange
import Derived.Deep.RegionLaw
set_option maxRecDepth 100000
namespace Go.Proofs.Ytgcedkioanolcaa
open Go.ChangeShapes Go.WideShapes Go.ChangeAt Go.RowKit
theorem step_append_OwR {P : Program} {ops : Array Oper} {o : Oper} {a : Act} {w : World} {K : Act → World → Prop} {Q : Exit → Act → World → Prop} {E : Prop}
    (hg : o.guard = none) (s x : Operand) (t : TypeId) (ho : o.op = .call { callee := .builtin .append, args := #[s, x], argTypes := #[t, t] })
    (i : TypeInfo) (ht : P.underlying t = some (.slice 5)) (hi : P.info? 5 = some i) (hz : i.zero = some (.int .u8 0)) (hsize : i.size = 1) (hby : i.bytes = 1)
    (B : Nat) (v : Value) (n : Nat) (xs : List Value) (hs : a.eval s = v) (hown : OwR w B v n xs)
    (A : Option Addr) (m c : Nat) (news : List Value) (hx : a.eval x = .slice A m c) (hr : Rd w w.heap.size 1 A m news) (h1 : ∀ u ∈ news, u.oneCell' = true) (hm : 0 < m) (hl : n + m ≤ 1000000000) (hB : B ≤ w.heap.size)
    (h : ∀ A' c' w', w'.ownsRow B 5 1 (.slice A' (n + m) c') (n + m) (xs ++ news) → w.grownBy w' v.ownBlock → K (a.put o.dst (.slice A' (n + m) c')) w') :
    if Region.wanted o (yielded ops a.tmps) = true then Oper.wp P o a w K Q else E := by
  have hw : Region.wanted o (yielded ops a.tmps) = true := by simp [Region.wanted, hg]
  rw [if_pos hw]
  obtain ⟨v', w', hrun, h2, h3⟩ := hown.run (P := P) t o.type i ht hi hz hsize hby A m c news hr h1 hm hl hB
  obtain ⟨A', c', rfl⟩ := own_form h2
  unfold Oper.wp execOp
  simp only [ho, resolve, invoke, builtin, Sem.run_bind, Sem.run_pure, Result.andThen_ok, List.map_toArray, List.map_cons, List.map_nil, hs, hx, hrun]
  exact h A' c' w' h2 h3
theorem Kb.rowR {w w' : World} {B n g : Nat} {v : Value} {xs : List Value} (ho : OwR w B v n xs) (hg : w.grownBy w' v.ownBlock) : Kb g w w' := Lib.OthersKept.grown (Lib.OthersKept.refl _ _ _) hg fun _ hq => ho.kind hq
theorem nbz_pos (u : Nat) : 0 < (nbz u).length := by
  by_cases h : u < 128
  · rw [nb_lt h]; simp
  · rw [nb_ge h]; simp
theorem own_ne {w : World} {B n g : Nat} {v : Value} {xs : List Value} {cs : Array Value} {T : TypeId} (h : OwR w B v n xs) (hg : w.heap[g]? = some (.cells cs T (0, 0))) (hT : T ≠ 5) : some g ≠ v.ownBlock := by
  intro e
  obtain ⟨c, fz, hc⟩ := h.kind e.symm
  rw [hg] at hc
  injection hc with hc
  injection hc with _ hc _
  exact hT hc
set_option maxHeartbeats 2000000 in
theorem packN_any (B g h : Nat) (L zs : List Int) (n c : Nat) (w : World) (hb : BufR 68 B g L w) (h0 : 0 < n) (hBw : B ≤ w.heap.size) (hn : n = zs.length) (hh : w.heap[h]? = some (.cells (zs.map (Value.int .i64)).toArray 3 (0, 0))) (hhg : h ≠ g) (hz : ∀ z ∈ zs, -9223372036854775808 ≤ z ∧ z ≤ 9223372036854775807) (hl : L.length + 10 * n ≤ 1000000000) :
    Calls Try.prog 97 #[.slice (some ⟨h, 0, none⟩) n c, .pointer (some ⟨g, 0, none⟩)] w fun e w' => e = .returned (.tuple #[]) ∧ Buf 68 B g (L ++ numL zs) w' ∧ Below B w w' ∧ Kb g w w' := by
  have HZ := Lib.hid hz
  have HH := Lib.hid hh
  have HN := Lib.hid hn
  have HB := Lib.hid hb
  have hn2 : n ≤ 140737488351232 := by omega
  clear hz hh hn hb
  obtain ⟨i0, hi, hz0, hz1, hz2⟩ := info_parts info_u8
  go_enter Try.func97, Try.ntmps97
  go_wp2_with fail
  go_loopw [7] (fun i wr => ∃ k : Nat, k ≤ n ∧ i = .int .i64 (k : Int) ∧ BufR 68 B g (L ++ numL (zs.take k)) wr ∧ (0 < k → Buf 68 B g (L ++ numL (zs.take k)) wr) ∧ Below B w wr ∧ Kb g w wr) (fun i _ => n - (intOf i).toNat)
  case atStart => exact ⟨0, Nat.zero_le _, rfl, by simpa [numL] using HB.out, fun h => absurd h (by omega), Below.refl _ _, Kb.refl⟩
  case round =>
    obtain ⟨k, hk, rfl, hbuf, hbufp, hbel, hkb⟩ := hrel
    have HBP := Lib.hid hbufp
    have HBF := Lib.hid hbuf
    have HBE := Lib.hid hbel
    have HKB := Lib.hid hkb
    have HSZ := Lib.hid (Nat.le_trans hBw hbel.size)
    clear hbuf hbufp hbel hkb
    by_cases hlt : k < n
    · have hkl : k < zs.length := by have := HN.out; omega
      have hx := List.getElem?_eq_getElem hkl
      have HT := Lib.hid (show zs.take (k + 1) = zs.take k ++ [zs[k]] by rw [List.take_succ_eq_append_getElem hkl])
      have HZK := Lib.hid (HZ.out zs[k] (List.getElem_mem _))
      have hcell : wr.cell? ⟨h, k, none⟩ = some (.int .i64 zs[k]) := by
        rw [Lib.cell_of_heap (HKB.out.blk HH.out hhg (by decide))]
        simp [hkl]
      have hcell0 : wr.cell? ⟨h, 0 + k, none⟩ = some (.int .i64 zs[k]) := by rw [Nat.zero_add]; exact hcell
      have hlen : (L ++ numL (zs.take k)).length + 10 ≤ 1000000000 := by
        have h1 := numL_len (zs.take k) fun z hz => HZ.out z (List.mem_of_mem_take hz)
        rw [List.length_take] at h1
        rw [List.length_append]
        omega
      obtain ⟨A, c1, hgb, hown⟩ := HBF.out.opens
      have HG := Lib.hid hgb
      have c0 : wr.cell? ⟨g, 0, none⟩ = some (.slice A (L ++ numL (zs.take k)).length c1) := by rw [Lib.cell_of_heap hgb]; rfl
      have f0 : wr.frozen? ⟨g, 0, none⟩ = false := Lib.frozen_of_heap hgb 0
      have HRD := Lib.hid hown.rd
      obtain ⟨L1, hL1⟩ : ∃ L1, L1 = L ++ numL (zs.take k) := ⟨_, rfl⟩
      rw [← hL1] at HBF HRD HG hlen c0 hown
      have HL1 := Lib.hid hL1
      have HLN := Lib.hid hlen
      clear hgb hL1 hx hlen HBP
      generalize zs[k] = z at *
      clear hkl
      generalize hl1 : L1.length = l1 at *
      have HLL := Lib.hid hl1
      clear hl1
      have h10 := nb_len10 (zig_lt HZK.out)
      have HOW := Lib.hid hown
      go_wp2_with fail
      have HLZ := Lib.hid (numL_len [z] (by intro y hy; simp at hy; subst hy; exact HZK.out))
      clear hcell hcell0 hown
      go_region_law (first
        | (go_simp; (go_at_call 96); refine (refNumberBytes_any z HZK.out _).mono ?_; rintro e w4 ⟨A4, n4, c4, rfl, hown4, hb4⟩; have hbw := (Below.refl wr.heap.size wr).drew.trans hb4; have hg4 := (hbw.block g HBF.out.lt).trans HG.out; have d4 : w4.cell? ⟨g, 0, none⟩ = some (.slice A l1 c1) := (by rw [Lib.cell_of_heap hg4]; rfl); have hn4 := hown4.1; simp at hn4; go_wp2_with fail)
        | (refine step_append_OwR rfl (.tmp 11) (.tmp 13) 68 rfl i0 Try.underlying68 hi hz0 hz1 hz2 B (.slice A l1 c1) l1 (L1.map (Value.int .u8)) rfl (HOW.out.keep hbw) A4 n4 c4 _ rfl (Rd.of_own hown4) (ints_oneCell _ _) ?_ ?_ ?_ ?_; (have := nbz_pos (zig z); omega); (have := HLN.out; omega); (exact Nat.le_trans HSZ.out hbw.size); intro A5 c5 w5 hown5 hgrow5; have hg5 : w5.heap[g]? = some (.cells #[.slice A l1 c1] 68 (0, 0)) := (by rw [hgrow5.block g (Array.getElem?_eq_some_iff.1 hg4).1 (own_ne (HOW.out.keep hbw) hg4 (by decide))]; exact hg4); have d5 : w5.cell? ⟨g, 0, none⟩ = some (.slice A l1 c1) := (by rw [Lib.cell_of_heap hg5]; rfl); have f5 : w5.frozen? ⟨g, 0, none⟩ = false := Lib.frozen_of_heap hg5 0)
        | fail "no")
      all_goals
        rw [← List.map_append] at hown5
        have hL5 : l1 + n4 = (L1 ++ nbz (zig z)).length := by rw [List.length_append, HLL.out, hn4]
        have HO5 := Lib.hid (show w5.ownsRow B 5 1 (.slice A5 (l1 + n4) c5) (L1 ++ nbz (zig z)).length ((L1 ++ nbz (zig z)).map (Value.int .u8)) by rw [← hL5]; exact hown5)
        have HG5 := Lib.hid hg5
        have HBW := Lib.hid hbw
        have HGR := Lib.hid hgrow5
        clear hown5 hL5 hg5 hown4 hn4 hgrow5 d4 d5 f5 hg4 hb4 hbw
        go_wp2_with fail
        go_roundw
        case rel =>
          have hput := Buf.put HBF.out.le HBF.out.ne HG5.out HO5.out
          have hq : Buf 68 B g (L ++ numL (zs.take (k + 1))) (w5.setCell ⟨g, 0, none⟩ (.slice A5 (l1 + n4) c5)) := by
            rw [HT.out, numL_app, numL_one, ← List.append_assoc, ← HL1.out]
            exact hput
          exact ⟨k + 1, by omega, by go_num, hq.weak, fun _ => hq, ((HBE.out.trans (HBW.out.mono HSZ.out)).grown HGR.out (Nat.le_trans HSZ.out HBW.out.size) (fun q hq => HOW.out.ownlt hq)).setCell (p := ⟨g, 0, none⟩) HBF.out.le _, ((HKB.out.trans (Kb.below HBW.out)).trans (Kb.rowR (HOW.out.keep HBW.out) HGR.out)).trans (Kb.set _)⟩
        case measure => simp [intOf]; omega
    · obtain rfl : k = n := by omega
      go_wp2_with fail
      go_end0
      refine ⟨rfl, ?_, HBE.out, HKB.out⟩
      have := HBP.out h0
      rwa [HN.out, List.take_length] at this
section
variable (FA TA : Option Addr) (fc tc : Nat) (K : KK)
set_option maxHeartbeats 8000000 in
theorem packCode_any (nf nt : Nat) (w : World) (hnf : nf = K.funcs.length) (hnt : nt = K.texts.length) (hk : KR w w.heap.size FA TA K) : Calls Try.prog 65 #[.agg #[.slice FA nf fc, .slice TA nt tc]] w (PackPost K w) := by
  obtain ⟨i0, hi, hz0, hz1, hz2⟩ := info_parts info_u8
  have HNF := Lib.hid hnf
  have HNT := Lib.hid hnt
  have HK := Lib.hid hk
  have HSD := Lib.hid (fun W (hW : Below w.heap.size w W) => refSound_any FA TA fc tc K nf nt W HNF.out HNT.out ((HK.out.into hW).more hW.size))
  have HSN := Lib.hid (fun h => Snd.of (K := K) h)
  have HP0 := Lib.hid (fun h w' => @PackPost.no K w w' h)
  have HP1 := Lib.hid (fun h => @PackPost.yes K w h)
  clear hnf hnt hk
  generalize soundV K = sv at *
  obtain ⟨s0, s1, s2⟩ := sv
  unfold fixV at HSD
  simp only at HSD HSN HP0 HP1
  by_cases h0 : s0 = 0
  · have b0 : (s0 != 0) = false := by simpa using h0
    have H0 := Lib.hid h0
    have HS := Lib.hid (HSN.out h0)
    have HL := Lib.hid (HK.out.lens (HSN.out h0))
    have hnf4 : nf ≤ 400 := by have := HNF.out; have := HS.out.nf; omega
    have hnt2 : nt ≤ 2000 := by have := HNT.out; have := HS.out.nt; omega
    clear h0 HSN HP0
    go_enter Try.func65, Try.ntmps65
    go_wp2_with fail
    refine (HSD.out _ (al _)).mono ?_
    rintro e w1 ⟨rfl, hb1⟩
    have hbl := (hb1.block w.heap.size (by simp)).trans (heap_alloc_new w _)
    have HB1 := Lib.hid (sq (al _) hb1)
    have c0 : w1.cell? ⟨w.heap.size, 0, none⟩ = some (.slice FA nf fc) := by rw [Lib.cell_of_heap hbl]; rfl
    have c1 : w1.cell? ⟨w.heap.size, 1, none⟩ = some (.slice TA nt tc) := by rw [Lib.cell_of_heap hbl]; rfl
    have zz : w.heap.size < w1.heap.size := (Array.getElem?_eq_some_iff.1 hbl).1
    have HBL := Lib.hid hbl
    clear hb1 HSD hbl
    have hcv := Go.Joins.run_convert_bytes_const_at (P := Try.prog) (w1.alloc (.cells #[.int .i64 s0, .int .i64 s1, .int .i64 s2] 122)) 68 5 #[.int .u8 114, .int .u8 111, .int .u8 97, .int .u8 100, .int .u8 49] 5 5 (w1.heap.size + 1) (by simp) Try.underlying68 Try.underlying5
    have hcx : (((w1.alloc (.cells #[.int .i64 s0, .int .i64 s1, .int .i64 s2] 122)).alloc (.cells #[.int .u8 114, .int .u8 111, .int .u8 97, .int .u8 100, .int .u8 49] 5 (5, 6))).alloc (.cells #[.slice (some ⟨w1.heap.size + 1, 0, none⟩) 5 5] 68)).cell? ⟨w.heap.size, 1, none⟩ = some (.slice TA nt tc) := by
      rw [World.cell?_alloc_lt _ _ _ (by simp; omega), World.cell?_alloc_lt _ _ _ (by simp; omega), World.cell?_alloc_lt _ _ _ (by simpa using zz)]
      exact c1
    go_wp2_with fail
    clear hcv hcx
    generalize hwf : w1.alloc (.cells #[.int .i64 s0, .int .i64 s1, .int .i64 s2] 122) = wf at *
    have hwfs : wf.heap.size = w1.heap.size + 1 := by subst hwf; simp
    have HB0 := Lib.hid (BufR.start (T := 68) (by decide) (B := w.heap.size) (g1 := w1.heap.size + 1) (g2 := w1.heap.size + 2) wf (by omega) #[.int .u8 114, .int .u8 111, .int .u8 97, .int .u8 100, .int .u8 49] (5, 6) [114, 111, 97, 100, 49] 5 rfl rfl hwfs.symm (by omega))
    have HBW0 := Lib.hid (show Below w.heap.size w wf by subst hwf; exact HB1.out.alloc (by omega) _)
    have HBL0 := Lib.hid (show wf.heap[w.heap.size]? = some (.cells #[.slice FA nf fc, .slice TA nt tc] 72 (0, 0)) by subst hwf; rw [Lib.alloc_old _ _ _ zz]; exact HBL.out)
    clear hwf
    generalize hwg : (wf.alloc (.cells #[.int .u8 114, .int .u8 111, .int .u8 97, .int .u8 100, .int .u8 49] 5 (5, 6))).alloc (.cells #[.slice (some ⟨w1.heap.size + 1, 0, none⟩) 5 5] 68) = wg at *
    have hwgs : wg.heap.size = w1.heap.size + 3 := by subst hwg; simp [hwfs]
    have HBWg := Lib.hid (show Below w.heap.size w wg by subst hwg; exact (HBW0.out.alloc (by omega) _).alloc (by simp; omega) _)
    have HBLg := Lib.hid (show wg.heap[w.heap.size]? = some (.cells #[.slice FA nf fc, .slice TA nt tc] 72 (0, 0)) by subst hwg; rw [Lib.alloc_old _ _ _ (by simp; omega), Lib.alloc_old _ _ _ (by omega)]; exact HBL0.out)
    clear hwg HBW0 HBL0
    refine Calls.mono (packN_any w.heap.size _ (w1.heap.size + 3) [114, 111, 97, 100, 49] [(nt : Int)] 1 1 _ (HB0.out.keep (al _)) (by omega) (by simp; omega) rfl (heap_at _ hwgs.symm) (by omega) (by intro z hz; simp at hz; omega) (by decide)) ?_
    rintro e w2 ⟨rfl, hbuf2, hbel2, hk2⟩
    have HP2 := Lib.hid ((PS.mk hbuf2 (hk2.blk ((Lib.alloc_old _ _ _ (by omega)).trans HBLg.out) (by omega) (by decide)) ((HBWg.out.alloc (by omega) _).trans hbel2) (by omega)).to (L' := textsL K 0) (by rw [texts_zero, HNT.out]; rfl))
    clear hbuf2 hbel2 hk2 HB0 c0 c1 HBL HB1 HBWg HBLg hwgs hwfs
    generalize hgw : w1.heap.size + 2 = g at *
    clear hgw zz
    have c0 : w2.cell? ⟨w.heap.size, 0, none⟩ = some (.slice FA nf fc) := by rw [Lib.cell_of_heap HP2.out.hd]; rfl
    have c1 : w2.cell? ⟨w.heap.size, 1, none⟩ = some (.slice TA nt tc) := by rw [Lib.cell_of_heap HP2.out.hd]; rfl
    go_wp2_with fail
    clear c0 c1
    go_loopw [33] (fun v wr => ∃ i : Nat, v = .int .i64 (i : Int) ∧ i ≤ nt ∧ PS w 68 g #[.slice FA nf fc, .slice TA nt tc] (textsL K i) wr) (fun v _ => nt - (intOf v).toNat)
    case atStart => exact ⟨0, rfl, by omega, HP2.out⟩
    case round =>
      obtain ⟨i, rfl, hint, hps⟩ := hrel
      have HPR := Lib.hid hps
      clear hps
      by_cases hlt : i < nt
      · have hit : i < K.texts.length := by have := HNT.out; omega
        have hti := List.getElem?_eq_getElem hit
        obtain ⟨tb, toff, rfl, htb, htc⟩ := text_at (HK.out.into HPR.out.bel).tx hit hti
        have hsz : K.texts[i].size ≤ 200 := quoE_len (HS.out.tx _ (List.getElem_mem _))
        have HST := Lib.hid (texts_step hti)
        have HLN := Lib.hid (texts_len HL.out HS.out.nt i)
        have hlti : (i : Int) < (nt : Int) := by omega
        generalize K.texts[i] = s at *
        clear hti hit
        go_wp2_with fail
        refine Calls.mono (packN_any w.heap.size _ wr.heap.size (textsL K i) [(s.size : Int)] 1 1 _ (HPR.out.buf.weak.keep (al _)) (by omega) (Nat.le_trans HPR.out.bel.size (by simp)) rfl (heap_at _ (by simp)) (by have := HPR.out.buf.lt; omega) (by intro z hz; simp at hz; omega) (by have := HLN.out; omega)) ?_
        rintro e w2a ⟨rfl, hbuf3, hbel3, hk3⟩
        have HPa := Lib.hid ((HPR.out.keep (al _)).into hbuf3 hbel3 hk3)
        clear hbuf3 hbel3 hk3
        obtain ⟨A, c1, hgb, hown⟩ := HPa.out.buf.opens
        have hlen : (textsL K i ++ numL [(s.size : Int)]).length ≤ 420025 := by
          have h1 := numL_len [(s.size : Int)] (by intro z hz; simp at hz; omega)
          have h2 := HLN.out
          rw [List.length_append]
          simp at h1
          omega
        have HG := Lib.hid hgb
        have HOW := Lib.hid hown
        have c0 : w2a.cell? ⟨g, 0, none⟩ = some (.slice A (textsL K i ++ numL [(s.size : Int)]).length c1) := by rw [Lib.cell_of_heap hgb]; rfl
        have f0 : w2a.frozen? ⟨g, 0, none⟩ = false := Lib.frozen_of_heap hgb 0
        obtain ⟨L1, hL1⟩ : ∃ L1, L1 = textsL K i ++ numL [(s.size : Int)] := ⟨_, rfl⟩
        rw [← hL1] at HOW HG hlen c0
        have HL1 := Lib.hid hL1
        have HSZ := Lib.hid HPa.out.bel.size
        clear hown hgb hL1
        generalize hl1 : L1.length = l1 at *
        have HLL := Lib.hid hl1
        clear hl1
        go_wp2_with (at_builtin; refine Lib.wpList_append_own_string _ rfl _ _ 68 9 rfl w.heap.size 5 i0 Try.underlying68 Try.underlying9 hi hz0 hz1 hz2 _ _ _ rfl HOW.out s rfl ?c3 ?c4 ?c5 ?_)
        case c3 => unfold maxLen; omega
        case c4 => omega
        case c5 => exact HSZ.out
        intro v' w2 hown' hgrow _
        have HGW := Lib.hid hgrow
        have hg2 : w2.heap[g]? = some (.cells #[.slice A l1 c1] 68 (0, 0)) := by
          rw [hgrow.block g (Array.getElem?_eq_some_iff.1 HG.out).1 (fun e => Lib.ownBlock_ne HOW.out HG.out HPa.out.buf.ne e.symm)]
          exact HG.out
        have d0 : w2.cell? ⟨g, 0, none⟩ = some (.slice A l1 c1) := by rw [Lib.cell_of_heap hg2]; rfl
        have f1 : w2.frozen? ⟨g, 0, none⟩ = false := Lib.frozen_of_heap hg2 0
        have HG2 := Lib.hid hg2
        rw [← strL_cells, ← List.map_append] at hown'
        have HO2 := Lib.hid (show w2.ownsRow w.heap.size 5 1 v' (L1 ++ strL s).length ((L1 ++ strL s).map (Value.int .u8)) by rw [List.length_append, strL_len, HLL.out]; exact hown')
        have HBa := Lib.hid (show Below w.heap.size w2a w2 from (Below.refl _ _).grown HGW.out HSZ.out (fun q hq => (HOW.out.lt q hq).1))
        obtain ⟨A3, c3, rfl⟩ := own_form hown'
        clear hown' hg2 hgrow
        have HP3 := Lib.hid ((HPa.out.into (Buf.put HPa.out.buf.le HPa.out.buf.ne HG2.out HO2.out) ((HBa.out).setCell (p := ⟨g, 0, none⟩) HPa.out.buf.le _) ((Kb.row HOW.out HGW.out).trans (Kb.set _))).to (L' := textsL K (i + 1)) (by rw [HST.out, HL1.out, txL, List.append_assoc]))
        go_wp2_with fail
        go_roundw
        case rel => exact ⟨i + 1, by go_num, by omega, HP3.out⟩
        case measure => simp [intOf]; omega
      · obtain rfl : i = nt := by omega
        have c0 : wr.cell? ⟨w.heap.size, 0, none⟩ = some (.slice FA nf fc) := by rw [Lib.cell_of_heap HPR.out.hd]; rfl
        have hglt := HPR.out.buf.lt
        have HLN := Lib.hid (texts_len HL.out HS.out.nt i)
        go_wp2_with fail
        refine Calls.mono (packN_any w.heap.size _ wr.heap.size (textsL K i) [(nf : Int)] 1 1 _ (HPR.out.buf.weak.keep (al _)) (by omega) (Nat.le_trans HPR.out.bel.size (by simp)) rfl (heap_at _ (by simp)) (by omega) (by intro z hz; simp at hz; omega) (by have := HLN.out; omega)) ?_
        rintro e w3 ⟨rfl, hbuf3, hbel3, hk3⟩
        have HP3 := Lib.hid (((HPR.out.keep (al _)).into hbuf3 hbel3 hk3).to (L' := funcsL K 0) (by rw [funcs_zero, midL, ← HNT.out, ← HNF.out]))
        clear hbuf3 hbel3 hk3 c0 hglt HPR HP2 hlt hint HLN
        have c0 : w3.cell? ⟨w.heap.size, 0, none⟩ = some (.slice FA nf fc) := by rw [Lib.cell_of_heap HP3.out.hd]; rfl
        go_wp2_with fail
        clear c0
        go_loopw [55] (fun v wr => ∃ k : Nat, v = .int .i64 (k : Int) ∧ k ≤ nf ∧ PS w 68 g #[.slice FA nf fc, .slice TA i tc] (funcsL K k) wr) (fun v _ => nf - (intOf v).toNat)
        case atStart => exact ⟨0, rfl, by omega, HP3.out⟩
        case round =>
          obtain ⟨k, rfl, hkn, hps⟩ := hrel
          obtain ⟨wo, rfl⟩ : ∃ wo : World, wo = wr := ⟨_, rfl⟩
          have HPR := Lib.hid hps
          have HLF := Lib.hid (funcs_len HL.out HS.out.nf k)
          clear hps
          by_cases hlt : k < nf
          · have hkt : k < K.funcs.length := by have := HNF.out; omega
            have HFK := Lib.hid (List.getElem?_eq_getElem hkt)
            have HFM := Lib.hid (List.getElem_mem hkt)
            have HBW := Lib.hid HPR.out.bel
            obtain ⟨⟨fb, foff, IA, ic, hFA, hfb, f0, f1, f2, f3, f4, hic, hicm, ess, hri, hai⟩, hbd⟩ := (HK.out.into HBW.out).fn k _ HFK.out
            subst hFA
            have hfbl : fb < wo.heap.size := Nat.lt_of_lt_of_le hfb HBW.out.size
            have hlti : (k : Int) < (nf : Int) := by omega
            have HRI := Lib.hid hri
            have HAI := Lib.hid hai
            have HBD := Lib.hid hbd
            have HHD := Lib.hid (head_ok (HS.out.hd k _ HFK.out))
            have HSTP := Lib.hid (funcs_step HFK.out)
            have HFH := Lib.hid (HL.out.fh _ HFM.out)
            have HIN := Lib.hid (HL.out.ins _ HFM.out)
            generalize hf : K.funcs[k] = f at *
            obtain ⟨ni, hni⟩ : ∃ ni, ni = f.ins.length := ⟨_, rfl⟩
            rw [← hni] at f4 HRI
            have HNI := Lib.hid hni
            have hni20 : ni ≤ 20000 := by rw [hni]; exact HHD.out.2.2.2.2.2.1
            clear hkt hri hai hni hf hfb hic hicm hbd
            have hnm : f.name.size ≤ 8000 := nm_len HHD.out.1
            have hglt := HPR.out.buf.lt
            go_wp2_with fail
            have hF := heap_alloc_new wo (.cells #[.string f.name, .int .i64 f.params, .int .i64 f.slots, .int .i64 f.caps, .slice IA ni ic] 128)
            refine Calls.mono (packN_any w.heap.size _ (wo.heap.size + 1) (funcsL K k) [(f.name.size : Int)] 1 1 _ ((HPR.out.buf.weak.keep (al _)).keep (al _)) (by omega) (Nat.le_trans HBW.out.size (by simp; omega)) rfl (heap_at _ (by simp)) (by omega) (by intro z hz; simp at hz; omega) (by have := HLF.out; omega)) ?_
            rintro e w2a ⟨rfl, hbuf3, hbel3, hk3⟩
            have HPa := Lib.hid (((HPR.out.keep (al _)).keep (al _)).into hbuf3 hbel3 hk3)
            have HFa := Lib.hid (show w2a.heap[wo.heap.size]? = some (.cells #[.string f.name, .int .i64 f.params, .int .i64 f.slots, .int .i64 f.caps, .slice IA ni ic] 128 (0, 0)) from hk3.blk ((Lib.alloc_old _ _ _ (by simp)).trans hF) (by omega) (by decide))
            clear hbuf3 hbel3 hk3 hF f0 f1 f2 f3 f4
            have q0 : w2a.cell? ⟨wo.heap.size, 0, none⟩ = some (.string f.name) := by rw [Lib.cell_of_heap HFa.out]; rfl
            obtain ⟨A, c1, hgb, hown⟩ := HPa.out.buf.opens
            have hlen : (funcsL K k ++ numL [(f.name.size : Int)]).length ≤ 483640035 := by
              have h1 := numL_len [(f.name.size : Int)] (by intro z hz; simp at hz; omega)
              have h2 := HLF.out
              rw [List.length_append]
              simp at h1
              omega
            have HG := Lib.hid hgb
            have HOW := Lib.hid hown
            have c0 : w2a.cell? ⟨g, 0, none⟩ = some (.slice A (funcsL K k ++ numL [(f.name.size : Int)]).length c1) := by rw [Lib.cell_of_heap hgb]; rfl
            have f0 : w2a.frozen? ⟨g, 0, none⟩ = false := Lib.frozen_of_heap hgb 0
            obtain ⟨L1, hL1⟩ : ∃ L1, L1 = funcsL K k ++ numL [(f.name.size : Int)] := ⟨_, rfl⟩
            rw [← hL1] at HOW HG hlen c0
            have HL1 := Lib.hid hL1
            have HSZ := Lib.hid HPa.out.bel.size
            clear hown hgb hL1
            generalize hl1 : L1.length = l1 at *
            have HLL := Lib.hid hl1
            clear hl1
            go_wp2_with (at_builtin; refine Lib.wpList_append_own_string _ rfl _ _ 68 9 rfl w.heap.size 5 i0 Try.underlying68 Try.underlying9 hi hz0 hz1 hz2 _ _ _ rfl HOW.out f.name rfl ?c3 ?c4 ?c5 ?_)
            case c3 => unfold maxLen; omega
            case c4 => omega
            case c5 => exact HSZ.out
            intro v' w2 hown' hgrow _
            have HGW := Lib.hid hgrow
            have hg2 : w2.heap[g]? = some (.cells #[.slice A l1 c1] 68 (0, 0)) := by
              rw [hgrow.block g (Array.getElem?_eq_some_iff.1 HG.out).1 (fun e => Lib.ownBlock_ne HOW.out HG.out HPa.out.buf.ne e.symm)]
              exact HG.out
            have d0 : w2.cell? ⟨g, 0, none⟩ = some (.slice A l1 c1) := by rw [Lib.cell_of_heap hg2]; rfl
            have f1 : w2.frozen? ⟨g, 0, none⟩ = false := Lib.frozen_of_heap hg2 0
            have HG2 := Lib.hid hg2
            rw [← strL_cells, ← List.map_append] at hown'
            have HO2 := Lib.hid (show w2.ownsRow w.heap.size 5 1 v' (L1 ++ strL f.name).length ((L1 ++ strL f.name).map (Value.int .u8)) by rw [List.length_append, strL_len, HLL.out]; exact hown')
            have HBa := Lib.hid (show Below w.heap.size w2a w2 from (Below.refl _ _).grown HGW.out HSZ.out (fun q hq => (HOW.out.lt q hq).1))
            obtain ⟨A3, c3, rfl⟩ := own_form hown'
            clear hown' hg2 hgrow
            go_upto_region 19 with (fail)
            have HP4 := Lib.hid ((HPa.out.into (Buf.put HPa.out.buf.le HPa.out.buf.ne HG2.out HO2.out) ((HBa.out).setCell (p := ⟨g, 0, none⟩) HPa.out.buf.le _) ((Kb.row HOW.out HGW.out).trans (Kb.set _))).to (L' := funcsL K k ++ txL f.name) (by rw [HL1.out, txL, List.append_assoc]))
            have HF4 := Lib.hid (show (w2.setCell ⟨g, 0, none⟩ (.slice A3 (l1 + f.name.size) c3)).heap[wo.heap.size]? = some (.cells #[.string f.name, .int .i64 f.params, .int .i64 f.slots, .int .i64 f.caps, .slice IA ni ic] 128 (0, 0)) from ((Kb.row HOW.out HGW.out).trans (Kb.set (.slice A3 (l1 + f.name.size) c3))).blk HFa.out (by omega) (by decide))
            generalize w2.setCell ⟨g, 0, none⟩ _ = w4 at *
            clear HOW HGW HG2 HO2 HPa HFa HG HL1 HLL HBa c0 f0 d0 f1 q0
            have q1 : w4.cell? ⟨wo.heap.size, 1, none⟩ = some (.int .i64 f.params) := by rw [Lib.cell_of_heap HF4.out]; rfl
            have q2 : w4.cell? ⟨wo.heap.size, 2, none⟩ = some (.int .i64 f.slots) := by rw [Lib.cell_of_heap HF4.out]; rfl
            have q3 : w4.cell? ⟨wo.heap.size, 3, none⟩ = some (.int .i64 f.caps) := by rw [Lib.cell_of_heap HF4.out]; rfl
            have q4 : w4.cell? ⟨wo.heap.size, 4, none⟩ = some (.slice IA ni ic) := by rw [Lib.cell_of_heap HF4.out]; rfl
            have hglt4 := HP4.out.buf.lt
            have hflt4 : wo.heap.size < w4.heap.size := (Array.getElem?_eq_some_iff.1 HF4.out).1
            go_wp2_with fail
            refine Calls.mono (packN_any w.heap.size _ w4.heap.size (funcsL K k ++ txL f.name) [f.params, f.slots, f.caps, (ni : Int)] 4 4 _ (HP4.out.buf.weak.keep (al _)) (by omega) (Nat.le_trans HP4.out.bel.size (by simp)) rfl (heap_at _ (by simp)) (by omega) (by have := HBD.out; intro z hz; simp at hz; omega) (by rw [List.length_append]; have := HLF.out; have := HFH.out; omega)) ?_
            rintro e w5 ⟨rfl, hbuf5, hbel5, hk5⟩
            have HP5 := Lib.hid ((HP4.out.keep (al _)).into hbuf5 hbel5 hk5)
            have HF5 := Lib.hid (hk5.blk ((Lib.alloc_old _ _ _ hflt4).trans HF4.out) (by omega) (by decide))
            clear hbuf5 hbel5 hk5 q1 q2 q3 q4
            have q4 : w5.cell? ⟨wo.heap.size, 4, none⟩ = some (.slice IA ni ic) := by rw [Lib.cell_of_heap HF5.out]; rfl
            obtain ⟨L5, hL5⟩ : ∃ L5, L5 = funcsL K k ++ txL f.name ++ numL [f.params, f.slots, f.caps, (ni : Int)] := ⟨_, rfl⟩
            rw [← hL5] at HP5
            have HL5 := Lib.hid hL5
            have hl5 : L5.length ≤ 483648075 := by
              have h1 := numL_len [f.params, f.slots, f.caps, (ni : Int)] (by have := HBD.out; intro z hz; simp at hz; omega)
              have h2 := HLF.out
              have h3 := HFH.out
              rw [hL5, List.length_append, List.length_append]
              simp at h1
              omega
            clear hL5 hflt4 hglt4 hglt
            go_wp2_with fail
            clear q4
            go_loopw [84] (fun v wq => ∃ m : Nat, v = .int .i64 (m : Int) ∧ m ≤ ni ∧ PS w 68 g #[.slice (some ⟨fb, foff, none⟩) nf fc, .slice TA i tc] (L5 ++ (f.ins.take m).flatMap insL) wq) (fun v _ => ni - (intOf v).toNat)
            case atStart => exact ⟨0, rfl, by omega, HP5.out.to (by simp)⟩
            case round =>
              obtain ⟨m, rfl, hmn, hps⟩ := hrel
              have HPQ := Lib.hid hps
              clear hps
              have HLM := Lib.hid (HIN.out m)
              by_cases hlt3 : m < ni
              · have hlt3i : (m : Int) < (ni : Int) := by omega
                have hkl : m < f.ins.length := by have := HNI.out; omega
                have hx := List.getElem?_eq_getElem hkl
                have HBQ := Lib.hid HPQ.out.bel
                obtain ⟨ib, ioff, rfl, hib, e0, e1, e2, e3, e4, e5⟩ := ins_at (HRI.out.keep (w' := wr) fun p hp => (HBQ.out.cell hp).trans (HBW.out.cell hp).symm) (HAI.out.keep (w' := wr) fun p hp => (HBQ.out.cell hp).trans (HBW.out.cell hp).symm) HNI.out hx
                have HBX := Lib.hid (ins_bd HRI.out HAI.out HNI.out hx)
                have hibl : ib < wr.heap.size := Nat.lt_of_lt_of_le hib HBQ.out.size
                have HTK := Lib.hid (flat_snoc insL f.ins m hx)
                have hglt := HPQ.out.buf.lt
                generalize f.ins[m] = x at *
                obtain ⟨x0, x1, x2, x3, x4, x5⟩ := x
                simp only at e0 e1 e2 e3 e4 e5 HBX
                clear hx hkl hib
                go_wp2_with fail
                refine Calls.mono (packN_any w.heap.size _ (wr.heap.size + 1) (L5 ++ (f.ins.take m).flatMap insL) [x0, x1, x2, x3, x4, x5] 6 6 _ ((HPQ.out.buf.weak.keep (al _)).keep (al _)) (by omega) (Nat.le_trans HBQ.out.size (by simp; omega)) rfl (heap_at _ (by simp)) (by omega) (by have := HBX.out; intro z hz; simp at hz; omega) (by rw [List.length_append]; have := HLM.out; omega)) ?_
                rintro e w7 ⟨rfl, hbuf7, hbel7, hk7⟩
                have HP7 := Lib.hid ((((HPQ.out.keep (al _)).keep (al _)).into hbuf7 hbel7 hk7).to (L' := L5 ++ (f.ins.take (m + 1)).flatMap insL) (by rw [HTK.out, List.append_assoc]; rfl))
                clear hbuf7 hbel7 hk7 e0 e1 e2 e3 e4 e5
                go_wp2_with fail
                go_roundw
                case rel => exact ⟨m + 1, by go_num, by omega, HP7.out⟩
                case measure => simp [intOf]; omega
              · obtain rfl : m = ni := by omega
                have HP9 := Lib.hid (HPQ.out.to (L' := funcsL K (k + 1)) (by rw [HSTP.out, HL5.out, fnL, HNI.out, List.take_length]; simp only [List.append_assoc]))
                go_wp2_with fail
                go_roundw
                case rel => exact ⟨k + 1, by go_num, by omega, HP9.out⟩
                case measure => simp [intOf]; omega
          · obtain rfl : k = nf := by omega
            obtain ⟨A, c1, hgb, hown⟩ := HPR.out.buf.opens
            have hle := HLF.out
            have HL8 := Lib.hid (show funcsL K k = packB K by rw [packB, HNF.out])
            rw [HL8.out] at hgb hown hle
            have d0 : wo.cell? ⟨g, 0, none⟩ = some (.slice A (packB K).length c1) := by rw [Lib.cell_of_heap hgb]; rfl
            have HOW := Lib.hid hown
            have hglt := HPR.out.buf.lt
            have HRD := Lib.hid (Rd.of_own hown)
            have HPB := Lib.hid (packB_wf K)
            have HBW := Lib.hid HPR.out.bel
            obtain ⟨PB, hPB⟩ : ∃ PB, PB = packB K := ⟨_, rfl⟩
            rw [← hPB] at d0 HOW hle HRD HPB HP1
            clear hgb hown hPB HL8
            obtain ⟨n, hn⟩ : ∃ n, n = PB.length := ⟨_, rfl⟩
            have HN2 := Lib.hid (show ((yP (by_ PB) n : Int) * 65536 + (xOf (by_ PB) n : Int)) = sumP PB by unfold sumP; rw [hn])
            have hbd := sumP_bd PB
            rw [← hn] at d0 HOW HRD hle
            clear hn
            go_wp2_with fail
            refine Calls.mono (refSumOf_any A n c1 PB _ HRD.out HPB.out (by omega)) ?_
            rintro e w8 ⟨rfl, rfl⟩
            rw [HN2.out]
            generalize sumP PB = sm at *
            clear HN2
            go_wp2_with (at_builtin; refine wpList_append_rd _ rfl _ _ 68 rfl w.heap.size 5 i0 _ 1 1 Try.underlying68 hi hz0 hz1 hz2 rfl (by omega) _ _ _ rfl (HOW.out.alloc _) _ _ 4 4 _ rfl (Rd.lit _ _ _ 4 1 rfl) (by simp [Value.oneCell']) (by unfold maxLen; omega) (by omega) (Nat.le_trans HBW.out.size (by simp)) ?_; intro A3 c3 w9 hown9 hgrow9 _)
            go_returns
            refine HP1.out H0.out (n := n + 4) ?_ (by omega) (below_grown (HBW.out.alloc HBW.out.size _) (Nat.le_trans HBW.out.size (by simp)) (HOW.out.alloc _) (Nat.le_refl _) hgrow9)
            have h9 := Rd.of_own hown9
            rw [List.map_append]
            exact h9
  · have b0 : (s0 != 0) = true := by simpa using h0
    have H0 := Lib.hid h0
    clear h0
    go_enter Try.func65, Try.ntmps65
    go_wp2_with fail
    refine (HSD.out _ (al _)).mono ?_
    rintro e w1 ⟨rfl, hb1⟩
    have HB1 := Lib.hid (sq (al _) hb1)
    clear hb1 HSD
    go_wp2_with fail
    go_quiet (fail)
    go_wp2_with fail
    go_returns
    exact HP0.out H0.out _ (dr (sq HB1.out (al _)) _)
end
end Go.Proofs.Ytgcedkioanolcaa
