/- The document's 'ShowCode'. Conditions: the code fits what comes in. -/
import Derived.Test.YtjegfimagjmpdaaGreatDoorCsP
import Derived.Test.YtjegfimagjmpdaaGreatDoorCdT
import Derived.Test.YtjegfimagjmpdaaGreatDoorDecimal
import Derived.Deep.RegionHeld3
import Derived.Lib.AppendStr
set_option maxRecDepth 100000
namespace Go.Proofs.YtjegfimagjmpdaaGreatDoor
open Go.ChangeShapes Go.WideShapes Go.ChangeAt Go.RowKit
/-- All blocks but rows of bytes are as they were. -/
def Kr (w w' : World) : Prop := Lib.OthersKept 5 none w w'
section
variable {w w' w2 : World}
theorem Kr.refl : Kr w w := Lib.OthersKept.refl _ _ _
theorem Kr.trans (h : Kr w w') (k : Kr w' w2) : Kr w w2 := Lib.OthersKept.trans h k
theorem Kr.below (hb : Below w.heap.size w w') : Kr w w' := fun k _ hk _ _ => (hb.block k (Array.getElem?_eq_some_iff.1 hk).1).trans hk
theorem Kr.row {B n : Nat} {v : Value} {xs : List Value} (ho : w.ownsRow B 5 1 v n xs) (hg : w.grownBy w' v.ownBlock) : Kr w w' :=
  Lib.OthersKept.grown (Lib.OthersKept.refl _ _ _) hg fun _ hq => own_kind ho _ hq
theorem Kr.blk (h : Kr w w') {k : Nat} {cs : Array Value} {t : TypeId} (hk : w.heap[k]? = some (.cells cs t (0, 0))) (ht : t ≠ 5) : w'.heap[k]? = some (.cells cs t (0, 0)) :=
  h k _ hk (fun e => by cases e) fun c fz e => ht (by injection e)
end
/-- The bytes gathered, the code's head, the table's rows. -/
structure PR (w : World) (cs : Array Value) (L : List UInt8) (v : Value) (wr : World) : Prop where
  own : wr.ownsRow w.heap.size 5 1 v L.length (Lib.byteCells L)
  hd : wr.heap[w.heap.size]? = some (.cells cs 25 (0, 0))
  bel : Below w.heap.size w wr
section
variable {w : World} {cs : Array Value} {L L' : List UInt8} {v v' : Value} {wr w' : World}
theorem PR.keep (h : PR w cs L v wr) (hb : Below wr.heap.size wr w') : PR w cs L v w' :=
  ⟨own_kept h.own hb, (Kr.below hb).blk h.hd (by decide), h.bel.trans (hb.mono h.bel.size)⟩
theorem PR.app (h : PR w cs L v wr) {xs : List Value} {n : Nat} (ho : w'.ownsRow w.heap.size 5 1 v' n xs) (hx : xs = Lib.byteCells L') (hg : wr.grownBy w' v.ownBlock) : PR w cs L' v' w' := by
  subst hx
  have hn : n = L'.length := by have := ho.1; rw [bc_len] at this; omega
  subst hn
  exact ⟨ho, (Kr.row h.own hg).blk h.hd (by decide), h.bel.grown hg h.bel.size (fun q hq => (h.own.lt q hq).1)⟩
theorem PR.to (h : PR w cs L v wr) (e : L = L') : PR w cs L' v wr := e ▸ h
end
theorem cutAt_rowsO (w : World) : Calls Tryz.prog 10 #[.string ⟨#[105, 110, 116, 32, 115, 32, 110, 59, 98, 111, 111, 108, 32, 115, 32, 98, 59, 116, 101, 120, 116, 32, 115, 32, 120, 59, 110, 105, 108, 32, 115, 59, 102, 117, 110, 99, 32, 115, 32, 102, 59, 109, 111, 118, 101, 32, 115, 32, 115, 59, 111, 112, 32, 115, 32, 115, 32, 115, 32, 111, 59, 99, 109, 112, 32, 115, 32, 115, 32, 115, 32, 99, 59, 110, 101, 103, 32, 115, 32, 115, 59, 110, 111, 116, 32, 115, 32, 115, 59, 99, 97, 116, 32, 115, 32, 115, 32, 115, 59, 108, 101, 110, 32, 115, 32, 115, 59, 105, 110, 100, 101, 120, 32, 115, 32, 115, 32, 115, 59, 115, 101, 116, 97, 116, 32, 115, 32, 115, 32, 115, 59, 99, 117, 116, 32, 115, 32, 115, 32, 115, 32, 115, 59, 97, 112, 112, 101, 110, 100, 32, 115, 32, 115, 32, 115, 59, 108, 105, 115, 116, 32, 115, 32, 98, 97, 115, 101, 58, 50, 32, 97, 110, 121, 59, 98, 111, 120, 32, 115, 32, 115, 59, 103, 101, 116, 32, 115, 32, 115, 59, 112, 117, 116, 32, 115, 32, 115, 59, 99, 108, 111, 115, 101, 32, 115, 32, 103, 32, 98, 97, 115, 101, 58, 51, 32, 99, 97, 112, 115, 59, 105, 115, 105, 110, 116, 32, 115, 32, 115, 59, 116, 111, 105, 110, 116, 32, 115, 32, 115, 59, 99, 104, 101, 99, 107, 59, 116, 101, 115, 116, 32, 116, 59, 106, 117, 109, 112, 32, 116, 59, 102, 97, 108, 115, 101, 32, 115, 32, 116, 59, 99, 97, 108, 108, 32, 115, 32, 115, 32, 98, 97, 115, 101, 58, 51, 32, 112, 59, 114, 101, 116, 117, 114, 110, 32, 114, 59, 108, 101, 97, 118, 101, 59, 112, 97, 110, 105, 99, 32, 115, 59, 114, 101, 99, 111, 118, 101, 114, 32, 115, 59, 101, 120, 105, 116, 32, 115, 59, 112, 114, 105, 110, 116, 32, 48, 32, 98, 97, 115, 101, 58, 50, 32, 97, 110, 121, 59, 100, 101, 102, 101, 114, 32, 97, 32, 115, 32, 98, 97, 115, 101, 58, 51, 32, 112, 59, 114, 117, 110, 32, 116, 59, 98, 105, 116, 32, 107, 59, 110, 111, 98, 105, 116, 32, 107, 32, 116, 59, 115, 116, 97, 114, 116, 32, 107, 32, 115, 32, 98, 97, 115, 101, 58, 51, 32, 112, 32, 97, 59, 101, 110, 100, 101, 100, 32, 116, 59, 116, 97, 107, 101, 110, 32, 115, 32, 119]⟩, .int .u8 59] w fun e w' => ∃ (g c : Nat) (cur : Array Value), e = .returned (.slice (some ⟨g, 0, none⟩) 41 c) ∧ w'.heap[g]? = some (.cells cur 9 (0, 0)) ∧ (∀ (j : Nat) (u : Value), (strs rowsL)[j]? = some u → cur[j]? = some u) ∧ Below w.heap.size w w' := by
  have h := cutAt_any tableB 59 59 (Lib.hid rfl) (by decide +kernel) w
  rw [rows_cut] at h
  refine h.mono ?_
  rintro e w' ⟨A, c, rfl, hown, hb⟩
  rcases hown.2 with ⟨h1, h2⟩ | ⟨g, cap, cur, hv, _, hg, _, _, _, htake⟩
  · cases h2
  · injection hv with hA _ hc
    subst hA hc
    refine ⟨g, _, cur, rfl, hg, fun j u hu => ?_, hb⟩
    rw [← htake, List.getElem?_take] at hu
    split at hu
    · simpa using hu
    · cases hu
theorem step_append_ownS {P : Program} {ops : Array Oper} {o : Oper} {a : Act} {w : World} {K : Act → World → Prop} {Q : Exit → Act → World → Prop} {E : Prop}
    (hg : o.guard = none) (sl x : Operand) (t u : TypeId) (ho : o.op = .call { callee := .builtin .append, args := #[sl, x], argTypes := #[t, u] })
    (base : Nat) (i : TypeInfo) (ht : P.underlying t = some (.slice 5)) (hu : P.underlying u = some .string) (hi : P.info? 5 = some i) (hz : i.zero = some (.int .u8 0)) (hsize : i.size = 1) (hby : i.bytes = 1)
    (v : Value) (n : Nat) (xs : List Value) (hs : a.eval sl = v) (s : ByteArray) (hx : a.eval x = .string s) (hown : w.ownsRow base 5 1 v n xs)
    (hl : n + s.size ≤ 2000000000) (hbase : base ≤ w.heap.size)
    (h : ∀ A' c' w', w'.ownsRow base 5 1 (.slice A' (n + s.size) c') (n + s.size) (xs ++ Lib.strCells s) → w.grownBy w' v.ownBlock → K (a.put o.dst (.slice A' (n + s.size) c')) w') :
    if Region.wanted o (yielded ops a.tmps) = true then Oper.wp P o a w K Q else E := by
  have hw : Region.wanted o (yielded ops a.tmps) = true := by simp [Region.wanted, hg]
  rw [if_pos hw]
  obtain ⟨v', w', hr, h2, h3, _⟩ := Lib.run_append_own_string (P := P) w base t u o.type 5 i ht hu hi hz hsize hby v n xs hown s (by unfold maxLen; omega) (by omega) hbase
  obtain ⟨A', c', rfl⟩ := own_form h2
  unfold Oper.wp execOp
  simp only [ho, resolve, invoke, builtin, Sem.run_bind, Sem.run_pure, Result.andThen_ok, List.map_toArray, List.map_cons, List.map_nil, hs, hx, hr]
  exact h A' c' w' h2 h3
theorem lst5 {a b c d e f : Prop} (h : a ∧ b ∧ c ∧ d ∧ e ∧ f) : e := h.2.2.2.2.1
theorem lst6 {a b c d e f : Prop} (h : a ∧ b ∧ c ∧ d ∧ e ∧ f) : f := h.2.2.2.2.2
section
variable {W w1 w2 : World} {g : Nat} {nm : ByteArray} {pa sl ca : Int} {IV : Value}
theorem held_of (hF : W.heap[g]? = some (.cells #[.string nm, .int .i64 pa, .int .i64 sl, .int .i64 ca, IV] 44 (0, 0))) (hk : Kr W w2) (hz : W.heap.size ≤ w2.heap.size) : w2.cell? ⟨g, 0, none⟩ = some (.string nm) ∧ w2.cell? ⟨g, 1, none⟩ = some (.int .i64 pa) ∧ w2.cell? ⟨g, 2, none⟩ = some (.int .i64 sl) ∧ w2.cell? ⟨g, 3, none⟩ = some (.int .i64 ca) ∧ Kr W w2 ∧ W.heap.size ≤ w2.heap.size := by
  have h := hk.blk hF (by decide)
  exact ⟨Lib.cell_of_heap h 0, Lib.cell_of_heap h 1, Lib.cell_of_heap h 2, Lib.cell_of_heap h 3, hk, hz⟩
theorem held_kr (hF : W.heap[g]? = some (.cells #[.string nm, .int .i64 pa, .int .i64 sl, .int .i64 ca, IV] 44 (0, 0))) (h : w1.cell? ⟨g, 0, none⟩ = some (.string nm) ∧ w1.cell? ⟨g, 1, none⟩ = some (.int .i64 pa) ∧ w1.cell? ⟨g, 2, none⟩ = some (.int .i64 sl) ∧ w1.cell? ⟨g, 3, none⟩ = some (.int .i64 ca) ∧ Kr W w1 ∧ W.heap.size ≤ w1.heap.size) (hb : Below w1.heap.size w1 w2) : w2.cell? ⟨g, 0, none⟩ = some (.string nm) ∧ w2.cell? ⟨g, 1, none⟩ = some (.int .i64 pa) ∧ w2.cell? ⟨g, 2, none⟩ = some (.int .i64 sl) ∧ w2.cell? ⟨g, 3, none⟩ = some (.int .i64 ca) ∧ Kr W w2 ∧ W.heap.size ≤ w2.heap.size :=
  held_of hF (h.2.2.2.2.1.trans (Kr.below hb)) (Nat.le_trans h.2.2.2.2.2 hb.size)
theorem held_kg (hF : W.heap[g]? = some (.cells #[.string nm, .int .i64 pa, .int .i64 sl, .int .i64 ca, IV] 44 (0, 0))) (h : w1.cell? ⟨g, 0, none⟩ = some (.string nm) ∧ w1.cell? ⟨g, 1, none⟩ = some (.int .i64 pa) ∧ w1.cell? ⟨g, 2, none⟩ = some (.int .i64 sl) ∧ w1.cell? ⟨g, 3, none⟩ = some (.int .i64 ca) ∧ Kr W w1 ∧ W.heap.size ≤ w1.heap.size) (hk : Kr w1 w2) (hz : w1.heap.size ≤ w2.heap.size) : w2.cell? ⟨g, 0, none⟩ = some (.string nm) ∧ w2.cell? ⟨g, 1, none⟩ = some (.int .i64 pa) ∧ w2.cell? ⟨g, 2, none⟩ = some (.int .i64 sl) ∧ w2.cell? ⟨g, 3, none⟩ = some (.int .i64 ca) ∧ Kr W w2 ∧ W.heap.size ≤ w2.heap.size :=
  held_of hF (h.2.2.2.2.1.trans hk) (Nat.le_trans h.2.2.2.2.2 hz)
end
section
variable (FA TA : Option Addr) (fc tc : Nat) (K : KK)
set_option maxHeartbeats 8000000 in
theorem showCode_any (nf nt : Nat) (w : World) (hnf : nf = K.funcs.length) (hnt : nt = K.texts.length) (hk : KR w w.heap.size FA TA K) : Calls Tryz.prog 13 #[.agg #[.slice FA nf fc, .slice TA nt tc]] w (ShowOne K (soundV K).1 w) := by
  obtain ⟨i0, hi, hz0, hz1, hz2⟩ := info_parts info_u8
  have HNF := Lib.hid hnf
  have HNT := Lib.hid hnt
  have HK := Lib.hid hk
  have HSD := Lib.hid (fun W (hW : Below w.heap.size w W) => refSound_any FA TA fc tc K nf nt W HNF.out HNT.out ((HK.out.into hW).more hW.size))
  have HSN := Lib.hid (fun h => Snd.of (K := K) h)
  clear hnf hnt hk
  generalize soundV K = sv at *
  obtain ⟨s0, s1, s2⟩ := sv
  unfold fixV at HSD
  simp only at HSD HSN ⊢
  by_cases h0 : s0 = 0
  · have b0 : (s0 != 0) = false := by simpa using h0
    have H0 := Lib.hid h0
    have HS := Lib.hid (HSN.out h0)
    have HL := Lib.hid (HK.out.lenS (HSN.out h0))
    have hnf4 : nf ≤ 400 := by have := HNF.out; have := HS.out.nf; omega
    have hnt2 : nt ≤ 2000 := by have := HNT.out; have := HS.out.nt; omega
    clear h0 HSN
    go_enter Tryz.func13, Tryz.ntmps13
    go_wp2_with fail
    refine (HSD.out _ (al _)).mono ?_
    rintro e w1 ⟨rfl, hb1⟩
    have hbl := (hb1.block w.heap.size (by simp)).trans (heap_alloc_new w _)
    have HB1 := Lib.hid (sq (al _) hb1)
    have c1 : w1.cell? ⟨w.heap.size, 1, none⟩ = some (.slice TA nt tc) := by rw [Lib.cell_of_heap hbl]; rfl
    have zz : w.heap.size < w1.heap.size := (Array.getElem?_eq_some_iff.1 hbl).1
    have HBL := Lib.hid hbl
    clear hb1 HSD hbl
    go_wp2_with fail
    generalize hw2 : World.alloc w1 _ = w2
    have HP2 := Lib.hid (show PR w #[.slice FA nf fc, .slice TA nt tc] (showT K 0) (.slice none 0 0) w2 by
      subst hw2
      exact ⟨World.ownsRow_nil _ _ _ _, by rw [Lib.alloc_old _ _ _ zz]; exact HBL.out, HB1.out.alloc (by omega) _⟩)
    clear hw2 c1 HBL HB1 zz
    go_loopw [5, 27] (fun v x wr => ∃ i : Nat, x = .int .i64 (i : Int) ∧ i ≤ nt ∧ PR w #[.slice FA nf fc, .slice TA nt tc] (showT K i) v wr) (fun _ x _ => nt - (intOf x).toNat)
    case atStart => exact ⟨0, rfl, by omega, HP2.out⟩
    case round =>
      obtain ⟨i, rfl, hint, hps⟩ := hrel
      have HPR := Lib.hid hps
      obtain ⟨VA, VC, hv⟩ := own_form hps.own
      subst hv
      clear hps
      by_cases hlt : i < nt
      · have hit : i < K.texts.length := by have := HNT.out; omega
        have hti := List.getElem?_eq_getElem hit
        obtain ⟨tb, toff, rfl, htb, htc⟩ := text_at (HK.out.into HPR.out.bel).tx hit hti
        have HST := Lib.hid (showT_step hti)
        have HLN := Lib.hid (showT_len HL.out HS.out.nt i)
        have HQE := Lib.hid (HS.out.tx _ (List.getElem_mem hit))
        have HBIG := Lib.hid (HK.out.big _ (List.getElem_mem hit))
        have hlti : (i : Int) < (nt : Int) := by omega
        generalize K.texts[i] = s at *
        clear hti hit
        have HQT := Lib.hid (show txS s = [116, 101, 120, 116, 32] ++ (quoT s).data.toList ++ [10] from rfl)
        have hql := quoT_len HQE.out
        generalize hl1 : (showT K i).length = l1 at *
        have HLL := Lib.hid hl1
        clear hl1
        go_wp2_with fail
        refine Calls.mono (refQuote_any s HBIG.out _) ?_
        rintro e w3 ⟨rfl, nq, rfl⟩
        rw [quoV_eq, HQE.out]
        have HP3 := Lib.hid (HPR.out.keep (dr (Below.refl _ _) nq))
        generalize wr.drewN nq = w3 at *
        generalize quoT s = q at *
        have hs1 : ((⟨#[116, 101, 120, 116, 32]⟩ : ByteArray) ++ q).size = 5 + q.size := by simp; rfl
        have hs2 : ((⟨#[116, 101, 120, 116, 32]⟩ : ByteArray) ++ q ++ ⟨#[10]⟩).size = 5 + q.size + 1 := by rw [ByteArray.size_append, hs1]; rfl
        have HOW := Lib.hid (show w3.ownsRow w.heap.size 5 1 (.slice VA l1 VC) l1 (Lib.byteCells (showT K i)) by have := HP3.out.own; rwa [HLL.out] at this)
        have HSZ := Lib.hid HP3.out.bel.size
        go_wp2_with (at_builtin; refine Lib.wpList_append_own_string _ rfl _ _ 58 9 rfl w.heap.size 5 i0 Tryz.underlying58 Tryz.underlying9 hi hz0 hz1 hz2 _ _ _ rfl HOW.out _ rfl ?c3 ?c4 ?c5 ?_)
        case c3 => rw [hs2]; have := HLN.out; unfold maxLen; omega
        case c4 => rw [hs2]; have := HLN.out; omega
        case c5 => exact HSZ.out
        intro v' w4 hown' hgrow _
        obtain ⟨A3, c3, rfl⟩ := own_form hown'
        have HP4 := Lib.hid (HP3.out.app (L' := showT K (i + 1)) hown' (by rw [sc_bc, bc_app, HST.out, HQT.out]; simp) hgrow)
        clear hown' hgrow hs1 hs2
        go_wp2_with fail
        go_roundw
        case rel => exact ⟨i + 1, by go_num, by omega, HP4.out⟩
        case measure => simp [intOf]; omega
      · obtain rfl : i = nt := by omega
        have HP3 := Lib.hid (HPR.out.to (L' := showF K 0) (by rw [showF_zero, ← HNT.out]))
        go_wp2_with fail
        refine Calls.mono (cutAt_rowsO _) ?_
        rintro e w3 ⟨rg, rc, cur, rfl, hrg, hcur, hb3⟩
        have HCU := Lib.hid hcur
        have HRG := Lib.hid hrg
        have HP4 := Lib.hid (HP3.out.keep hb3)
        clear hcur hrg hb3 HPR HP2 HP3
        have c0 : w3.cell? ⟨w.heap.size, 0, none⟩ = some (.slice FA nf fc) := by rw [Lib.cell_of_heap HP4.out.hd]; rfl
        go_wp2_with fail
        clear c0 hlt hint
        generalize hVV : (showT K i).length = lv at *
        clear hVV
        go_loopw [5, 46] (fun v x wr => ∃ k : Nat, x = .int .i64 (k : Int) ∧ k ≤ nf ∧ PR w #[.slice FA nf fc, .slice TA i tc] (showF K k) v wr ∧ wr.heap[rg]? = some (.cells cur 9 (0, 0))) (fun _ x _ => nf - (intOf x).toNat)
        case atStart => exact ⟨0, rfl, by omega, HP4.out, HRG.out⟩
        case round =>
          obtain ⟨k, rfl, hkn, hps, hrg⟩ := hrel
          obtain ⟨wo, rfl⟩ : ∃ wo : World, wo = wr := ⟨_, rfl⟩
          have HPR := Lib.hid hps
          obtain ⟨VB, VD, hv⟩ := own_form hps.own
          subst hv
          have HRR := Lib.hid hrg
          have HLF := Lib.hid (showF_len HL.out HS.out.nf HS.out.nt k)
          clear hps hrg
          by_cases hlt : k < nf
          · have hkt : k < K.funcs.length := by have := HNF.out; omega
            have HFK := Lib.hid (List.getElem?_eq_getElem hkt)
            have HFM := Lib.hid (List.getElem_mem hkt)
            have HBW := Lib.hid HPR.out.bel
            obtain ⟨⟨fb, foff, IA, ic, hFA, hfb, f0, f1, f2, f3, f4, hic, hicm, ess, hri, hai⟩, hbd⟩ := (HK.out.into HBW.out).fn k _ HFK.out
            subst hFA
            have hfbl : fb < wo.heap.size := Nat.lt_of_lt_of_le hfb HBW.out.size
            have hlti : (k : Int) < (nf : Int) := by omega
            have HRI := Lib.hid hri
            have HAI := Lib.hid hai
            have HBD := Lib.hid hbd
            have HHD := Lib.hid (head_ok (HS.out.hd k _ HFK.out))
            have HSTP := Lib.hid (showF_step HFK.out)
            have HFH := Lib.hid (HL.out.fh _ HFM.out)
            have HIN := Lib.hid (HL.out.ins _ HFM.out)
            have HOPS := Lib.hid (fun i x hx => insE_op (HS.out.fn k _ HFK.out i x hx))
            generalize hf : K.funcs[k] = f at *
            obtain ⟨ni, hni⟩ : ∃ ni, ni = f.ins.length := ⟨_, rfl⟩
            rw [← hni] at f4 HRI
            have HNI := Lib.hid hni
            have hni20 : ni ≤ 20000 := by rw [hni]; exact HHD.out.2.2.2.2.2.1
            clear hkt hri hai hni hf hfb hic hicm hbd
            have hnm : f.name.size ≤ 8000 := nm_len HHD.out.1
            have HFN := Lib.hid (show fnH f = [102, 117, 110, 99, 32] ++ f.name.data.toList ++ blL [f.params, f.slots, f.caps] ++ [10] from rfl)
            generalize hl1 : (showF K k).length = l1 at *
            have HLL := Lib.hid hl1
            clear hl1
            obtain ⟨nm, hnmE⟩ : ∃ nm, nm = f.name := ⟨_, rfl⟩
            obtain ⟨pa, hpaE⟩ : ∃ pa, pa = f.params := ⟨_, rfl⟩
            obtain ⟨sl, hslE⟩ : ∃ sl, sl = f.slots := ⟨_, rfl⟩
            obtain ⟨ca, hcaE⟩ : ∃ ca, ca = f.caps := ⟨_, rfl⟩
            rw [← hnmE] at f0 hnm HFN
            rw [← hpaE] at f1 HFN HBD
            rw [← hslE] at f2 HFN HBD
            rw [← hcaE] at f3 HFN HBD
            clear hnmE hpaE hslE hcaE
            obtain ⟨hbp, hbs, hbc⟩ := HBD.out
            have hd1 : (decS pa).size ≤ 20 := dL_len pa hbp
            have hd2 : (decS sl).size ≤ 20 := dL_len sl hbs
            have hd3 : (decS ca).size ≤ 20 := dL_len ca hbc
            go_wp2_with fail
            generalize hW : wo.alloc (.cells #[.string nm, .int .i64 pa, .int .i64 sl, .int .i64 ca, .slice IA ni ic] 44) = W
            have HF := Lib.hid (show W.heap[wo.heap.size]? = some (.cells #[.string nm, .int .i64 pa, .int .i64 sl, .int .i64 ca, .slice IA ni ic] 44 (0, 0)) by subst hW; exact heap_alloc_new wo _)
            have HPA := Lib.hid (show PR w #[.slice (some ⟨fb, foff, none⟩) nf fc, .slice TA i tc] (showF K k) (.slice VB l1 VD) W by subst hW; have h := HPR.out.keep (al (.cells #[.string nm, .int .i64 pa, .int .i64 sl, .int .i64 ca, .slice IA ni ic] 44)); exact h)
            have HRA := Lib.hid (show W.heap[rg]? = some (.cells cur 9 (0, 0)) by subst hW; rw [Lib.alloc_old _ _ _ (Array.getElem?_eq_some_iff.1 HRR.out).1]; exact HRR.out)
            have hwl : wo.heap.size < W.heap.size := by subst hW; simp
            clear hW f0 f1 f2 f3 f4
            have HOW := Lib.hid (show W.ownsRow w.heap.size 5 1 (.slice VB l1 VD) l1 (Lib.byteCells (showF K k)) by have := HPA.out.own; rwa [HLL.out] at this)
            have HWZ := Lib.hid HPA.out.bel.size
            have n0 : ¬ 9223372036854775807 < 5 + nm.size := by omega
            have n1 : ¬ 9223372036854775807 < 5 + nm.size + 1 := by omega
            have n2 : ¬ 9223372036854775807 < 5 + nm.size + 1 + (decS pa).size := by omega
            have n3 : ¬ 9223372036854775807 < 5 + nm.size + 1 + (decS pa).size + 1 := by omega
            have n4 : ¬ 9223372036854775807 < 5 + nm.size + 1 + (decS pa).size + 1 + (decS sl).size := by omega
            have n5 : ¬ 9223372036854775807 < 5 + nm.size + 1 + (decS pa).size + 1 + (decS sl).size + 1 := by omega
            have n6 : ¬ 9223372036854775807 < 5 + nm.size + 1 + (decS pa).size + 1 + (decS sl).size + 1 + (decS ca).size := by omega
            have n7 : ¬ 9223372036854775807 < 5 + nm.size + 1 + (decS pa).size + 1 + (decS sl).size + 1 + (decS ca).size + 1 := by omega
            have HSS := Lib.hid (show ((⟨#[102, 117, 110, 99, 32]⟩ : ByteArray) ++ nm ++ ⟨#[32]⟩ ++ decS pa ++ ⟨#[32]⟩ ++ decS sl ++ ⟨#[32]⟩ ++ decS ca ++ ⟨#[10]⟩).size ≤ 8070 by
              simp only [ByteArray.size_append]
              have h1 : (⟨#[102, 117, 110, 99, 32]⟩ : ByteArray).size = 5 := rfl
              have h2 : (⟨#[32]⟩ : ByteArray).size = 1 := rfl
              have h3 : (⟨#[10]⟩ : ByteArray).size = 1 := rfl
              omega)
            have HBB := Lib.hid (show [102, 117, 110, 99, 32] ++ nm.data.toList ++ blL [pa, sl, ca] ++ [10] = ((⟨#[102, 117, 110, 99, 32]⟩ : ByteArray) ++ nm ++ ⟨#[32]⟩ ++ decS pa ++ ⟨#[32]⟩ ++ decS sl ++ ⟨#[32]⟩ ++ decS ca ++ ⟨#[10]⟩).data.toList by simp [blL, dL])
            have hId : W.drew.cell? ⟨wo.heap.size, 0, none⟩ = some (.string nm) ∧ W.drew.cell? ⟨wo.heap.size, 1, none⟩ = some (.int .i64 pa) ∧ W.drew.cell? ⟨wo.heap.size, 2, none⟩ = some (.int .i64 sl) ∧ W.drew.cell? ⟨wo.heap.size, 3, none⟩ = some (.int .i64 ca) ∧ Kr W W.drew ∧ W.heap.size ≤ W.drew.heap.size :=
              ⟨(Lib.cell_of_heap HF.out 0), (Lib.cell_of_heap HF.out 1), (Lib.cell_of_heap HF.out 2), (Lib.cell_of_heap HF.out 3), Kr.refl, Nat.le_refl _⟩
            go_region_held3 (fun w' => w'.cell? ⟨wo.heap.size, 0, none⟩ = some (.string nm) ∧ w'.cell? ⟨wo.heap.size, 1, none⟩ = some (.int .i64 pa) ∧ w'.cell? ⟨wo.heap.size, 2, none⟩ = some (.int .i64 sl) ∧ w'.cell? ⟨wo.heap.size, 3, none⟩ = some (.int .i64 ca) ∧ Kr W w' ∧ W.heap.size ≤ w'.heap.size)
              (first | exact hId | exact held_kr HF.out (by assumption) (by assumption) | exact held_kg HF.out (by assumption) (by assumption) (by assumption))
              (first
                | (go_at_call 31; refine (refDecimal_any _ (by with_reducible assumption) _).mono ?_; rintro e w4 ⟨rfl, b4⟩)
                | (have hpw : PR w #[.slice (some ⟨fb, foff, none⟩) nf fc, .slice TA i tc] (showF K k) (.slice VB l1 VD) w4 := (by (refine PR.keep ?_ b4); (refine PR.keep ?_ (by assumption)); (refine PR.keep ?_ (by assumption)); exact HPA.out.keep (Below.refl W.heap.size W).drew); have hwn : w4.ownsRow w.heap.size 5 1 (.slice VB l1 VD) l1 (Lib.byteCells (showF K k)) := (by have := hpw.own; rwa [HLL.out] at this); refine step_append_ownS (by rfl) _ _ 58 9 (by rfl) w.heap.size i0 Tryz.underlying58 Tryz.underlying9 hi hz0 hz1 hz2 (.slice VB l1 VD) l1 (Lib.byteCells (showF K k)) (by rfl) _ (by rfl) hwn ?_ ?_ ?_; (have := HSS.out; have := HLF.out; omega); (exact Nat.le_trans HWZ.out (lst6 (by assumption))); intro A5 c5 w5 hown5 hgrow5; have hk5 := Kr.row hwn hgrow5; have hz5 := hgrow5.size; have HP5 := Lib.hid (hpw.app (L' := showF K k ++ fnH f) hown5 (by rw [sc_bc, bc_app, ← HBB.out, HFN.out]) hgrow5)))
            have HK5 := Lib.hid (lst5 (show _ ∧ _ ∧ _ ∧ _ ∧ Kr W w5 ∧ W.heap.size ≤ w5.heap.size by assumption))
            have HSE := Lib.hid (show ((⟨#[102, 117, 110, 99, 32]⟩ : ByteArray) ++ nm ++ ⟨#[32]⟩ ++ decS pa ++ ⟨#[32]⟩ ++ decS sl ++ ⟨#[32]⟩ ++ decS ca ++ ⟨#[10]⟩).size = 5 + nm.size + 1 + (decS pa).size + 1 + (decS sl).size + 1 + (decS ca).size + 1 by
              simp only [ByteArray.size_append]
              rfl)
            rw [HSE.out] at HP5
            rw [HSE.out]
            have HF5 := Lib.hid (HK5.out.blk HF.out (by decide))
            have HR5 := Lib.hid (HK5.out.blk HRA.out (by decide))
            clear hId hown5 hgrow5 hwn hpw hk5 hz5 n0 n1 n2 n3 n4 n5 n6 n7 HSS HBB HSE HOW HPA HRA HRR HPR HK5 HF HWZ hwl hd1 hd2 hd3
            generalize l1 + (5 + nm.size + 1 + (decS pa).size + 1 + (decS sl).size + 1 + (decS ca).size + 1) = l5 at *
            have q4 : w5.cell? ⟨wo.heap.size, 4, none⟩ = some (.slice IA ni ic) := by rw [Lib.cell_of_heap HF5.out]; rfl
            have HFH2 := Lib.hid (show (showF K k ++ fnH f).length ≤ 924052070 by rw [List.length_append, HLL.out]; have := HLF.out; have := HFH.out; omega)
            go_wp2_with fail
            clear q4 HF5
            go_loopw [5, 74] (fun v x wq => ∃ m : Nat, x = .int .i64 (m : Int) ∧ m ≤ ni ∧ PR w #[.slice (some ⟨fb, foff, none⟩) nf fc, .slice TA i tc] (showF K k ++ fnH f ++ (f.ins.take m).flatMap lnL) v wq ∧ wq.heap[rg]? = some (.cells cur 9 (0, 0))) (fun _ x _ => ni - (intOf x).toNat)
            case atStart => exact ⟨0, rfl, by omega, HP5.out.to (by simp), HR5.out⟩
            case round =>
              obtain ⟨m, rfl, hmn, hps, hrg⟩ := hrel
              have HPQ := Lib.hid hps
              obtain ⟨VX, VY, hv⟩ := own_form hps.own
              subst hv
              have HRQ := Lib.hid hrg
              clear hps hrg
              have HLM := Lib.hid (HIN.out m)
              by_cases hlt4 : m < ni
              · have hlt3i : (m : Int) < (ni : Int) := by omega
                have hkl : m < f.ins.length := by have := HNI.out; omega
                have hx := List.getElem?_eq_getElem hkl
                have HBQ := Lib.hid HPQ.out.bel
                obtain ⟨ib, ioff, rfl, hib, e0, e1, e2, e3, e4, e5⟩ := ins_at (HRI.out.keep (w' := wr) fun p hp => (HBQ.out.cell hp).trans (HBW.out.cell hp).symm) (HAI.out.keep (w' := wr) fun p hp => (HBQ.out.cell hp).trans (HBW.out.cell hp).symm) HNI.out hx
                have HBX := Lib.hid (ins_bd HRI.out HAI.out HNI.out hx)
                have HOX := Lib.hid (HOPS.out m _ hx)
                have hibl : ib < wr.heap.size := Nat.lt_of_lt_of_le hib HBQ.out.size
                have HTK := Lib.hid (flat8_snoc lnL f.ins m hx)
                have HIN2 := Lib.hid (HIN.out (m + 1))
                generalize f.ins[m] = x at *
                obtain ⟨x0, x1, x2, x3, x4, x5⟩ := x
                simp only at e0 e1 e2 e3 e4 e5 HBX HOX
                clear hx hkl hib
                obtain ⟨q, hq⟩ : ∃ q : Nat, x0 = (q : Int) + 1 := ⟨(x0 - 1).toNat, by have := HOX.out; omega⟩
                have hq41 : q < 41 := by have := HOX.out; omega
                have hqr : q < rowsL.length := hq41
                have HWL := Lib.hid (show wordL x0.toNat = (cutG 32 (rowsL.getD q []) []).headD [] by unfold wordL; rw [show x0.toNat - 1 = q by omega])
                have hwl := word_len x0.toNat (by have := HOX.out; omega)
                have HLNE := Lib.hid (show lnL ⟨x0, x1, x2, x3, x4, x5⟩ = [32, 32] ++ wordL x0.toNat ++ blL [x1, x2, x3, x4, x5] ++ [10] from rfl)
                have hcell : wr.cell? ⟨rg, q, none⟩ = some (.string ⟨(rowsL.getD q []).toArray⟩) := by
                  rw [Lib.cell_of_heap HRQ.out]
                  refine HCU.out q _ ?_
                  unfold strs
                  rw [List.getElem?_map, List.getElem?_eq_getElem hqr, List.getD_eq_getElem?_getD, List.getElem?_eq_getElem hqr]
                  rfl
                have hrl : rg < wr.heap.size := (Array.getElem?_eq_some_iff.1 HRQ.out).1
                have HRS := Lib.hid (rows_short (rowsL.getD q []) (by rw [List.getD_eq_getElem?_getD, List.getElem?_eq_getElem hqr]; exact List.getElem_mem _))
                subst hq
                generalize rowsL.getD q [] = row at *
                generalize wordL ((q : Int) + 1).toNat = wd at *
                have HII := Lib.hid (heap_alloc_new wr (.cells #[.int .i64 ((q : Int) + 1), .int .i64 x1, .int .i64 x2, .int .i64 x3, .int .i64 x4, .int .i64 x5] 47))
                have HPA := Lib.hid (HPQ.out.keep (al (.cells #[.int .i64 ((q : Int) + 1), .int .i64 x1, .int .i64 x2, .int .i64 x3, .int .i64 x4, .int .i64 x5] 47)))
                have HRA := Lib.hid ((Lib.alloc_old wr (.cells #[.int .i64 ((q : Int) + 1), .int .i64 x1, .int .i64 x2, .int .i64 x3, .int .i64 x4, .int .i64 x5] 47) rg hrl).trans HRQ.out)
                obtain ⟨LM, hLM⟩ : ∃ LM, LM = showF K k ++ fnH f ++ (f.ins.take m).flatMap lnL := ⟨_, rfl⟩
                rw [← hLM] at HPQ HPA
                have hlm : LM.length ≤ 926352070 := by rw [hLM, List.length_append]; have := HFH2.out; have := HLM.out; omega
                have HLMM := Lib.hid hLM
                clear hLM hqr
                generalize hl6 : (showF K k ++ fnH f ++ (f.ins.take m).flatMap lnL).length = l6 at *
                have HL6 := Lib.hid (show LM.length = l6 by rw [HLMM.out]; exact hl6)
                rw [HL6.out] at HPQ HPA
                clear hl6
                go_wp2_with fail
                refine Calls.mono (cutAt_row row HRS.out _) ?_
                rintro r w5 ⟨RA, rn, rc2, rfl, hrn, hr1, hr2, hrd, hb5⟩
                have HP5 := Lib.hid (HPA.out.keep hb5)
                have HR5 := Lib.hid ((hb5.block rg (by simp; omega)).trans HRA.out)
                have HI5 := Lib.hid ((hb5.block wr.heap.size (by simp)).trans HII.out)
                obtain ⟨rb, roff, u, hRA, hrb, hu, hrc⟩ := (hrd.rd (B := w5.heap.size) (fun b hb => hb.2)).at1 (k := 0) hr1
                subst hRA
                have hul : u = .string ⟨wd.toArray⟩ := by
                  have hn : 0 < (cutG 32 row []).length := by omega
                  have h2 := strs_get hn hu
                  rw [h2, HWL.out]
                  cases hcg : cutG 32 row [] with
                  | nil => rw [hcg] at hn; simp at hn
                  | cons a b => rfl
                subst hul
                have hrc0 : w5.cell? ⟨rb, roff, none⟩ = some (.string ⟨wd.toArray⟩) := by simpa using hrc
                have hr1i : (0 : Int) < (rn : Int) := by omega
                clear hrd hb5 hu hrc hcell HWL HPA HRA HII
                have hlw : ({ data := #[32, 32] } ++ { data := wd.toArray } : ByteArray) = ⟨(32 :: 32 :: wd).toArray⟩ := by apply ByteArray.ext; simp
                have hls : (⟨(32 :: 32 :: wd).toArray⟩ : ByteArray).size = wd.length + 2 := by show (32 :: 32 :: wd).toArray.size = _; simp
                have hls2 : ({ data := #[32, 32] } ++ { data := wd.toArray } : ByteArray).size = wd.length + 2 := by rw [hlw]; exact hls
                have HOW := Lib.hid (show w5.ownsRow w.heap.size 5 1 (.slice VX l6 VY) l6 (Lib.byteCells LM) by have := HP5.out.own; rwa [HL6.out] at this)
                have HSZ := Lib.hid HP5.out.bel.size
                have hl6b : l6 ≤ 926352070 := by have := HL6.out; omega
                go_wp2_with (at_builtin; refine Lib.wpList_append_own_string _ rfl _ _ 58 9 rfl w.heap.size 5 i0 Tryz.underlying58 Tryz.underlying9 hi hz0 hz1 hz2 _ _ _ rfl HOW.out _ rfl ?c3 ?c4 ?c5 ?_)
                case c3 => first | (rw [hls2]; unfold maxLen; omega) | (rw [hls]; unfold maxLen; omega)
                case c4 => first | (rw [hls2]; omega) | (rw [hls]; omega)
                case c5 => exact HSZ.out
                intro v' w6 hown' hgrow _
                obtain ⟨A3, c3, rfl⟩ := own_form hown'
                have HP6 := Lib.hid (HP5.out.app (L' := LM ++ (32 :: 32 :: wd)) hown' (by rw [sc_bc, bc_app]) hgrow)
                have HKR := Lib.hid (Kr.row HOW.out hgrow)
                have HR6 := Lib.hid (HKR.out.blk HR5.out (by decide))
                have HI6 := Lib.hid (HKR.out.blk HI5.out (by decide))
                clear hown' hgrow HKR HR5 HI5 HP5 HOW HSZ hrc0 hls hls2 hlw
                have t0 : w6.cell? ⟨wr.heap.size, 0, none⟩ = some (.int .i64 ((q : Int) + 1)) := by rw [Lib.cell_of_heap HI6.out]; rfl
                have t1 : w6.cell? ⟨wr.heap.size, 1, none⟩ = some (.int .i64 x1) := by rw [Lib.cell_of_heap HI6.out]; rfl
                have t2 : w6.cell? ⟨wr.heap.size, 2, none⟩ = some (.int .i64 x2) := by rw [Lib.cell_of_heap HI6.out]; rfl
                have t3 : w6.cell? ⟨wr.heap.size, 3, none⟩ = some (.int .i64 x3) := by rw [Lib.cell_of_heap HI6.out]; rfl
                have t4 : w6.cell? ⟨wr.heap.size, 4, none⟩ = some (.int .i64 x4) := by rw [Lib.cell_of_heap HI6.out]; rfl
                have t5 : w6.cell? ⟨wr.heap.size, 5, none⟩ = some (.int .i64 x5) := by rw [Lib.cell_of_heap HI6.out]; rfl
                go_wp2_with fail
                refine Calls.mono (num5_any _ _ _ _ _ _ _) ?_
                rintro r w7 ⟨rfl, hb7⟩
                have HP7 := Lib.hid (HP6.out.keep hb7)
                have HR7 := Lib.hid ((hb7.block rg (Array.getElem?_eq_some_iff.1 HR6.out).1).trans HR6.out)
                clear hb7 t0 t1 t2 t3 t4 t5 HP6 HR6 HI6
                go_wp2_with fail
                have HZ5 := Lib.hid (show ∀ z ∈ [x1, x2, x3, x4, x5], -9223372036854775808 ≤ z ∧ z ≤ 9223372036854775807 from by
                  obtain ⟨b0, b1, b2, b3, b4, b5⟩ := HBX.out
                  intro z hz
                  simp at hz
                  rcases hz with rfl | rfl | rfl | rfl | rfl <;> assumption)
                obtain ⟨LB, hLB⟩ : ∃ LB, LB = LM ++ (32 :: 32 :: wd) := ⟨_, rfl⟩
                rw [← hLB] at HP7
                have hlb : LB.length ≤ 926352100 := by rw [hLB, List.length_append]; simp; omega
                have HLB := Lib.hid hLB
                clear hLB
                go_loopw [5, 92] (fun v x wq => ∃ j : Nat, x = .int .i64 (j : Int) ∧ j ≤ 5 ∧ PR w #[.slice (some ⟨fb, foff, none⟩) nf fc, .slice TA i tc] (LB ++ blL ([x1, x2, x3, x4, x5].take j)) v wq ∧ wq.heap[rg]? = some (.cells cur 9 (0, 0))) (fun _ x _ => 5 - (intOf x).toNat)
                case atStart => exact ⟨0, rfl, by omega, HP7.out.to (by simp [blL]), HR7.out⟩
                case round =>
                  obtain ⟨j, rfl, hj, hps, hrg⟩ := hrel
                  have HPJ := Lib.hid hps
                  obtain ⟨VP, VQ, hv⟩ := own_form hps.own
                  subst hv
                  have HRJ := Lib.hid hrg
                  clear hps hrg
                  have HB3 := Lib.hid (blL_len ([x1, x2, x3, x4, x5].take j) (fun z hz => HZ5.out z (List.mem_of_mem_take hz)))
                  have hlk : ([x1, x2, x3, x4, x5].take j).length ≤ 5 := by rw [List.length_take]; simp; omega
                  have hl7b : (LB ++ blL ([x1, x2, x3, x4, x5].take j)).length ≤ 926352250 := by rw [List.length_append]; have := HB3.out; omega
                  generalize hl7 : (LB ++ blL ([x1, x2, x3, x4, x5].take j)).length = l7 at *
                  have HL7 := Lib.hid hl7
                  clear hl7
                  by_cases hltj : j < 5
                  · have hji : (j : Int) < 5 := by omega
                    have hix := run_num5 x1 x2 x3 x4 x5 j hltj
                    have hjl : j < [x1, x2, x3, x4, x5].length := by simpa using hltj
                    have hz : [x1, x2, x3, x4, x5].getD j 0 = [x1, x2, x3, x4, x5][j] := by simp [List.getD, List.getElem?_eq_getElem hjl]
                    have HZK := Lib.hid (HZ5.out _ (List.getElem_mem hjl))
                    have HSN := Lib.hid (blL_snoc [x1, x2, x3, x4, x5] j (List.getElem?_eq_getElem hjl))
                    rw [hz] at hix
                    generalize [x1, x2, x3, x4, x5][j] = z at *
                    clear hz hjl
                    go_wp2_with fail
                    refine Calls.mono (refDecimal_any z HZK.out _) ?_
                    rintro r w8 ⟨rfl, hb8⟩
                    have HP8 := Lib.hid (HPJ.out.keep hb8)
                    have HR8 := Lib.hid ((hb8.block rg (Array.getElem?_eq_some_iff.1 HRJ.out).1).trans HRJ.out)
                    have HD := Lib.hid (show dL z = (decS z).data.toList from rfl)
                    have hds : (decS z).size ≤ 20 := dL_len z HZK.out
                    clear hb8
                    generalize decS z = D at *
                    have hs1 : ((⟨#[32]⟩ : ByteArray) ++ D).size = 1 + D.size := by simp; rfl
                    have HOW := Lib.hid (show w8.ownsRow w.heap.size 5 1 (.slice VP l7 VQ) l7 (Lib.byteCells (LB ++ blL ([x1, x2, x3, x4, x5].take j))) by have := HP8.out.own; rwa [HL7.out] at this)
                    have HSZ := Lib.hid HP8.out.bel.size
                    go_wp2_with (at_builtin; refine Lib.wpList_append_own_string _ rfl _ _ 58 9 rfl w.heap.size 5 i0 Tryz.underlying58 Tryz.underlying9 hi hz0 hz1 hz2 _ _ _ rfl HOW.out _ rfl ?c3 ?c4 ?c5 ?_)
                    case c3 => rw [hs1]; unfold maxLen; omega
                    case c4 => rw [hs1]; omega
                    case c5 => exact HSZ.out
                    intro v' w9 hown' hgrow _
                    obtain ⟨A9, c9, rfl⟩ := own_form hown'
                    have HP9 := Lib.hid (HP8.out.app (L' := LB ++ blL ([x1, x2, x3, x4, x5].take (j + 1))) hown' (by rw [sc_bc, bc_app, HSN.out, HD.out]; simp) hgrow)
                    have HR9 := Lib.hid ((Kr.row HOW.out hgrow).blk HR8.out (by decide))
                    clear hown' hgrow
                    go_wp2_with fail
                    go_roundw
                    case rel => exact ⟨j + 1, by go_num, by omega, HP9.out, HR9.out⟩
                    case measure => simp [intOf]; omega
                  · obtain rfl : j = 5 := by omega
                    rw [show ((5 : Nat) : Int) = 5 from rfl] at *
                    have HOW := Lib.hid (show wr.ownsRow w.heap.size 5 1 (.slice VP l7 VQ) l7 (Lib.byteCells (LB ++ blL ([x1, x2, x3, x4, x5].take 5))) by have := HPJ.out.own; rwa [HL7.out] at this)
                    have HSZ := Lib.hid HPJ.out.bel.size
                    have HPJ2 := Lib.hid (show PR w #[.slice (some ⟨fb, foff, none⟩) nf fc, .slice TA i tc] (LB ++ blL ([x1, x2, x3, x4, x5].take 5)) (.slice VP l7 VQ) wr from HPJ.out)
                    go_wp2_with (at_builtin; refine wpList_append_rd _ rfl _ _ 58 rfl w.heap.size 5 i0 _ 1 1 Tryz.underlying58 hi hz0 hz1 hz2 rfl (by omega) _ _ _ rfl (HOW.out.alloc _) _ _ 1 1 [_] rfl (Rd.lit1 _ _ _) (one1 rfl) (by unfold maxLen; omega) (by omega) (Nat.le_trans HSZ.out (by simp)) ?_; intro A9 c9 w9 hown9 hgrow9 _)
                    have HP9 := Lib.hid ((HPJ2.out.keep (al _)).app (L' := showF K k ++ fnH f ++ (f.ins.take (m + 1)).flatMap lnL) hown9 (by
                      rw [show ([.int .u8 10] : List Value) = Lib.byteCells [10] from rfl, bc_app, HTK.out, HLNE.out, HLB.out, HLMM.out]
                      simp [List.append_assoc]) hgrow9)
                    have HR9 := Lib.hid ((Kr.row (HOW.out.alloc _) hgrow9).blk ((Lib.alloc_old _ _ rg (Array.getElem?_eq_some_iff.1 HRJ.out).1).trans HRJ.out) (by decide))
                    clear hown9 hgrow9
                    go_wp2_with fail
                    go_roundw
                    case rel => exact ⟨m + 1, by go_num, by omega, HP9.out, HR9.out⟩
                    case measure => simp [intOf]; omega
              · obtain rfl : m = ni := by omega
                have HP9 := Lib.hid (HPQ.out.to (L' := showF K (k + 1)) (by rw [HSTP.out, fnS, HNI.out, List.take_length, List.append_assoc]))
                go_wp2_with fail
                go_roundw
                case rel => exact ⟨k + 1, by go_num, by omega, HP9.out, HRQ.out⟩
                case measure => simp [intOf]; omega
          · obtain rfl : k = nf := by omega
            have HC := Lib.hid (show showF K k = showC K by rw [showC, HNF.out])
            have HOW := Lib.hid (show wo.ownsRow w.heap.size 5 1 (.slice VB (showF K k).length VD) (showF K k).length ((n8 (showF K k)).map (Value.int .u8)) by have := HPR.out.own; rw [← b8_eq]; exact this)
            have hx := run_str_rd (P := Tryz.prog) (c := VD) (Rd.of_own (c := VD) HOW.out) 58 5 9 Tryz.underlying58 Tryz.underlying5 Tryz.underlying9
            have HST := Lib.hid (strOf_n8 (showF K k))
            rw [HST.out] at hx
            go_wp2_with fail
            go_returns
            exact ⟨by rw [if_pos H0.out, ← HC.out, H0.out]; rfl, HPR.out.bel⟩
  · have b0 : (s0 != 0) = true := by simpa using h0
    have H0 := Lib.hid h0
    clear h0
    go_enter Tryz.func13, Tryz.ntmps13
    go_wp2_with fail
    refine (HSD.out _ (al _)).mono ?_
    rintro e w1 ⟨rfl, hb1⟩
    have HB1 := Lib.hid (sq (al _) hb1)
    clear hb1 HSD
    go_wp2_with fail
    go_quiet (fail)
    go_wp2_with fail
    go_returns
    exact ⟨by rw [if_neg H0.out]; rfl, dr (sq HB1.out (al _)) _⟩
end
end Go.Proofs.YtjegfimagjmpdaaGreatDoor
