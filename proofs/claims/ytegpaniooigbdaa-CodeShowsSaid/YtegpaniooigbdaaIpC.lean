/- 'image.Pack'. Conditions: the code fits what comes in. -/
import Derived.Test.YtegpaniooigbdaaIpB
import Derived.Test.YtegpaniooigbdaaImage1
import Derived.Lib.SmallJoins
set_option maxRecDepth 100000
namespace Go.Proofs.Ytegpaniooigbdaa
open Go.ChangeShapes Go.WideShapes Go.ChangeAt Go.RowKit
theorem heap_at {w : World} (o : Obj) {h : Nat} (hh : h = w.heap.size) : (w.alloc o).heap[h]? = some o := hh ▸ heap_alloc_new w o
/-- The sum of a code's bytes, and its four bytes. -/
def sumP (L : List Int) : Int := (yP (by_ L) L.length : Int) * 65536 + (xOf (by_ L) L.length : Int)
def tailL (s : Int) : List Int := [s / 16777216, s / 65536 % 256, s / 256 % 256, s % 256]
theorem sumP_bd (L : List Int) : 0 ≤ sumP L ∧ sumP L < 4294967296 := by
  have h1 := yP_lt (by_ L) L.length
  have h2 := xOf_lt (by_ L) L.length
  unfold sumP
  omega
/-- What 'Pack' answers. -/
def PackPost (K : KK) (w : World) (e : Ending) (w' : World) : Prop :=
  ((¬ (soundV K).1 = 0 ∧ e = .returned (.tuple #[.slice none 0 0, .int .i64 (soundV K).1])) ∨
   ((soundV K).1 = 0 ∧ ∃ A n c, e = .returned (.tuple #[.slice A n c, .int .i64 0]) ∧ Rd w' w'.heap.size 1 A n ((packB K ++ tailL (sumP (packB K))).map (Value.int .u8)) ∧ n ≤ 1000000000)) ∧ Below w.heap.size w w'
theorem PackPost.no {K : KK} {w w' : World} (h : ¬ (soundV K).1 = 0) (hb : Below w.heap.size w w') : PackPost K w (.returned (.tuple #[.slice none 0 0, .int .i64 (soundV K).1])) w' := ⟨.inl ⟨h, rfl⟩, hb⟩
theorem PackPost.yes {K : KK} {w : World} (h : (soundV K).1 = 0) {w' : World} {A : Option Addr} {n c : Nat} (hr : Rd w' w'.heap.size 1 A n ((packB K ++ tailL (sumP (packB K))).map (Value.int .u8))) (hn : n ≤ 1000000000) (hb : Below w.heap.size w w') : PackPost K w (.returned (.tuple #[.slice A n c, .int .i64 0])) w' := ⟨.inr ⟨h, A, n, c, rfl, hr, hn⟩, hb⟩
theorem ins_bd {w : World} {M : Nat → Prop} {n : Nat} {A : Option Addr} {ess : List (List Value)} {l : List II} (hr : RdM w M II.sh.size A n ess.flatten) (ha : II.sh.all w M ess l) (hn : n = l.length) {i : Nat} {x : II} (hx : l[i]? = some x) :
    (-9223372036854775808 ≤ x.o ∧ x.o ≤ 9223372036854775807) ∧ (-9223372036854775808 ≤ x.a ∧ x.a ≤ 9223372036854775807) ∧ (-9223372036854775808 ≤ x.b ∧ x.b ≤ 9223372036854775807) ∧ (-9223372036854775808 ≤ x.c ∧ x.c ≤ 9223372036854775807) ∧ (-9223372036854775808 ≤ x.d ∧ x.d ≤ 9223372036854775807) ∧ (-9223372036854775808 ≤ x.e ∧ x.e ≤ 9223372036854775807) := by
  obtain ⟨hi, _⟩ := List.getElem?_eq_some_iff.1 hx
  obtain ⟨_, _, _, y, _, _, hy, hrd, _⟩ := Shp.elem hr ha (i := i) (by omega) hn
  rw [hx] at hy
  injection hy with hy
  subst hy
  exact (II.elim hrd).2
theorem KR.lens {w : World} {B : Nat} {FA TA : Option Addr} {K : KK} (h : KR w B FA TA K) (hs : Snd K) : Lens K := by
  refine Lens.of hs (fun f hf => ?_) (fun f hf x hx => ?_)
  · obtain ⟨k, hk, he⟩ := List.mem_iff_getElem.1 hf
    exact (h.fn k f (by rw [List.getElem?_eq_getElem hk, he])).bd
  · obtain ⟨k, hk, he⟩ := List.mem_iff_getElem.1 hf
    obtain ⟨⟨b, off, A, c, _, _, _, _, _, _, _, _, _, ess, hr, ha⟩, _⟩ := h.fn k f (by rw [List.getElem?_eq_getElem hk, he])
    obtain ⟨i, hi, hxe⟩ := List.mem_iff_getElem.1 hx
    obtain ⟨_, _, _, y, _, _, hy, hrd, _⟩ := Shp.elem hr ha hi rfl
    have : y = x := by rw [List.getElem?_eq_getElem hi, hxe] at hy; injection hy with hy; exact hy.symm
    subst this
    exact (II.elim hrd).2
section
variable (FA TA : Option Addr) (fc tc : Nat) (K : KK)
set_option maxHeartbeats 8000000 in
theorem imagePack_any (nf nt : Nat) (w : World) (hnf : nf = K.funcs.length) (hnt : nt = K.texts.length) (hk : KR w w.heap.size FA TA K) : Calls Try.prog 28 #[.agg #[.slice FA nf fc, .slice TA nt tc]] w (PackPost K w) := by
  obtain ⟨i0, hi, hz0, hz1, hz2⟩ := info_parts info_u8
  have HNF := Lib.hid hnf
  have HNT := Lib.hid hnt
  have HK := Lib.hid hk
  have HSD := Lib.hid (fun W (hW : Below w.heap.size w W) => codeSound_any FA TA fc tc K nf nt W HNF.out HNT.out ((HK.out.into hW).more hW.size))
  have HSN := Lib.hid (fun h => Snd.of (K := K) h)
  have HP0 := Lib.hid (fun h w' => @PackPost.no K w w' h)
  have HP1 := Lib.hid (fun h => @PackPost.yes K w h)
  clear hnf hnt hk
  generalize soundV K = sv at *
  obtain ⟨s0, s1, s2⟩ := sv
  unfold fixV at HSD
  simp only at HSD HSN HP0 HP1
  by_cases h0 : s0 = 0
  · have b0 : (s0 != 0) = false := by simpa using h0
    have H0 := Lib.hid h0
    have HS := Lib.hid (HSN.out h0)
    have HL := Lib.hid (HK.out.lens (HSN.out h0))
    have hnf4 : nf ≤ 400 := by have := HNF.out; have := HS.out.nf; omega
    have hnt2 : nt ≤ 2000 := by have := HNT.out; have := HS.out.nt; omega
    clear h0 HSN HP0
    go_enter Try.func28, Try.ntmps28
    go_wp2_with fail
    refine (HSD.out _ (al _)).mono ?_
    rintro e w1 ⟨rfl, hb1⟩
    have hbl := (hb1.block w.heap.size (by simp)).trans (heap_alloc_new w _)
    have HB1 := Lib.hid (sq (al _) hb1)
    have c0 : w1.cell? ⟨w.heap.size, 0, none⟩ = some (.slice FA nf fc) := by rw [Lib.cell_of_heap hbl]; rfl
    have c1 : w1.cell? ⟨w.heap.size, 1, none⟩ = some (.slice TA nt tc) := by rw [Lib.cell_of_heap hbl]; rfl
    have zz : w.heap.size < w1.heap.size := (Array.getElem?_eq_some_iff.1 hbl).1
    have HBL := Lib.hid hbl
    clear hb1 HSD hbl
    have hcv := Go.Joins.run_convert_bytes_const_at (P := Try.prog) (w1.alloc (.cells #[.int .i64 s0, .int .i64 s1, .int .i64 s2] 85)) 72 5 #[.int .u8 114, .int .u8 111, .int .u8 97, .int .u8 100, .int .u8 49] 5 5 (w1.heap.size + 1) (by simp) Try.underlying72 Try.underlying5
    have hcx : (((w1.alloc (.cells #[.int .i64 s0, .int .i64 s1, .int .i64 s2] 85)).alloc (.cells #[.int .u8 114, .int .u8 111, .int .u8 97, .int .u8 100, .int .u8 49] 5 (5, 6))).alloc (.cells #[.slice (some ⟨w1.heap.size + 1, 0, none⟩) 5 5] 125)).cell? ⟨w.heap.size, 1, none⟩ = some (.slice TA nt tc) := by
      rw [World.cell?_alloc_lt _ _ _ (by simp; omega), World.cell?_alloc_lt _ _ _ (by simp; omega), World.cell?_alloc_lt _ _ _ (by simpa using zz)]
      exact c1
    go_wp2_with fail
    clear hcv hcx
    generalize hwf : w1.alloc (.cells #[.int .i64 s0, .int .i64 s1, .int .i64 s2] 85) = wf at *
    have hwfs : wf.heap.size = w1.heap.size + 1 := by subst hwf; simp
    have HB0 := Lib.hid (BufR.start (T := 125) (by decide) (B := w.heap.size) (g1 := w1.heap.size + 1) (g2 := w1.heap.size + 2) wf (by omega) #[.int .u8 114, .int .u8 111, .int .u8 97, .int .u8 100, .int .u8 49] (5, 6) [114, 111, 97, 100, 49] 5 rfl rfl hwfs.symm (by omega))
    have HBW0 := Lib.hid (show Below w.heap.size w wf by subst hwf; exact HB1.out.alloc (by omega) _)
    have HBL0 := Lib.hid (show wf.heap[w.heap.size]? = some (.cells #[.slice FA nf fc, .slice TA nt tc] 71 (0, 0)) by subst hwf; rw [Lib.alloc_old _ _ _ zz]; exact HBL.out)
    clear hwf
    generalize hwg : (wf.alloc (.cells #[.int .u8 114, .int .u8 111, .int .u8 97, .int .u8 100, .int .u8 49] 5 (5, 6))).alloc (.cells #[.slice (some ⟨w1.heap.size + 1, 0, none⟩) 5 5] 125) = wg at *
    have hwgs : wg.heap.size = w1.heap.size + 3 := by subst hwg; simp [hwfs]
    have HBWg := Lib.hid (show Below w.heap.size w wg by subst hwg; exact (HBW0.out.alloc (by omega) _).alloc (by simp; omega) _)
    have HBLg := Lib.hid (show wg.heap[w.heap.size]? = some (.cells #[.slice FA nf fc, .slice TA nt tc] 71 (0, 0)) by subst hwg; rw [Lib.alloc_old _ _ _ (by simp; omega), Lib.alloc_old _ _ _ (by omega)]; exact HBL0.out)
    clear hwg HBW0 HBL0
    refine Calls.mono (wNumbers_any w.heap.size _ (w1.heap.size + 3) [114, 111, 97, 100, 49] [(nt : Int)] 1 1 _ (HB0.out.keep (al _)) (by omega) (by simp; omega) rfl (heap_at _ hwgs.symm) (by omega) (by intro z hz; simp at hz; omega) (by decide)) ?_
    rintro e w2 ⟨rfl, hbuf2, hbel2, hk2⟩
    have HP2 := Lib.hid ((PS.mk hbuf2 (hk2.blk ((Lib.alloc_old _ _ _ (by omega)).trans HBLg.out) (by omega) (by decide)) ((HBWg.out.alloc (by omega) _).trans hbel2) (by omega)).to (L' := textsL K 0) (by rw [texts_zero, HNT.out]; rfl))
    clear hbuf2 hbel2 hk2 HB0 c0 c1 HBL HB1 HBWg HBLg hwgs hwfs
    generalize hgw : w1.heap.size + 2 = g at *
    clear hgw zz
    have c0 : w2.cell? ⟨w.heap.size, 0, none⟩ = some (.slice FA nf fc) := by rw [Lib.cell_of_heap HP2.out.hd]; rfl
    have c1 : w2.cell? ⟨w.heap.size, 1, none⟩ = some (.slice TA nt tc) := by rw [Lib.cell_of_heap HP2.out.hd]; rfl
    go_wp2_with fail
    clear c0 c1
    go_loopw [33] (fun v wr => ∃ i : Nat, v = .int .i64 (i : Int) ∧ i ≤ nt ∧ PS w 125 g #[.slice FA nf fc, .slice TA nt tc] (textsL K i) wr) (fun v _ => nt - (intOf v).toNat)
    case atStart => exact ⟨0, rfl, by omega, HP2.out⟩
    case round =>
      obtain ⟨i, rfl, hint, hps⟩ := hrel
      have HPR := Lib.hid hps
      clear hps
      by_cases hlt : i < nt
      · have hit : i < K.texts.length := by have := HNT.out; omega
        have hti := List.getElem?_eq_getElem hit
        obtain ⟨tb, toff, rfl, htb, htc⟩ := text_at (HK.out.into HPR.out.bel).tx hit hti
        have hsz : K.texts[i].size ≤ 200 := quoE_len (HS.out.tx _ (List.getElem_mem _))
        have HST := Lib.hid (texts_step hti)
        have HLN := Lib.hid (texts_len HL.out HS.out.nt i)
        have hlti : (i : Int) < (nt : Int) := by omega
        generalize K.texts[i] = s at *
        clear hti hit
        go_wp2_with fail
        refine Calls.mono (wText_any w.heap.size g (textsL K i) s wr HPR.out.buf HPR.out.bel.size (by have := HLN.out; omega)) ?_
        rintro e w3 ⟨rfl, hbuf3, hbel3, hk3⟩
        have HP3 := Lib.hid ((HPR.out.into hbuf3 hbel3 hk3).to HST.out.symm)
        clear hbuf3 hbel3 hk3
        go_wp2_with fail
        go_roundw
        case rel => exact ⟨i + 1, by go_num, by omega, HP3.out⟩
        case measure => simp [intOf]; omega
      · obtain rfl : i = nt := by omega
        have c0 : wr.cell? ⟨w.heap.size, 0, none⟩ = some (.slice FA nf fc) := by rw [Lib.cell_of_heap HPR.out.hd]; rfl
        have hglt := HPR.out.buf.lt
        have HLN := Lib.hid (texts_len HL.out HS.out.nt i)
        go_wp2_with fail
        refine Calls.mono (wNumbers_any w.heap.size _ wr.heap.size (textsL K i) [(nf : Int)] 1 1 _ (HPR.out.buf.weak.keep (al _)) (by omega) (Nat.le_trans HPR.out.bel.size (by simp)) rfl (heap_at _ (by simp)) (by omega) (by intro z hz; simp at hz; omega) (by have := HLN.out; omega)) ?_
        rintro e w3 ⟨rfl, hbuf3, hbel3, hk3⟩
        have HP3 := Lib.hid (((HPR.out.keep (al _)).into hbuf3 hbel3 hk3).to (L' := funcsL K 0) (by rw [funcs_zero, midL, ← HNT.out, ← HNF.out]))
        clear hbuf3 hbel3 hk3 c0 hglt HPR HP2 hlt hint HLN
        have c0 : w3.cell? ⟨w.heap.size, 0, none⟩ = some (.slice FA nf fc) := by rw [Lib.cell_of_heap HP3.out.hd]; rfl
        go_wp2_with fail
        clear c0
        go_loopw [50] (fun v wr => ∃ k : Nat, v = .int .i64 (k : Int) ∧ k ≤ nf ∧ PS w 125 g #[.slice FA nf fc, .slice TA i tc] (funcsL K k) wr) (fun v _ => nf - (intOf v).toNat)
        case atStart => exact ⟨0, rfl, by omega, HP3.out⟩
        case round =>
          obtain ⟨k, rfl, hkn, hps⟩ := hrel
          obtain ⟨wo, rfl⟩ : ∃ wo : World, wo = wr := ⟨_, rfl⟩
          have HPR := Lib.hid hps
          have HLF := Lib.hid (funcs_len HL.out HS.out.nf k)
          clear hps
          by_cases hlt : k < nf
          · have hkt : k < K.funcs.length := by have := HNF.out; omega
            have HFK := Lib.hid (List.getElem?_eq_getElem hkt)
            have HFM := Lib.hid (List.getElem_mem hkt)
            have HBW := Lib.hid HPR.out.bel
            obtain ⟨⟨fb, foff, IA, ic, hFA, hfb, f0, f1, f2, f3, f4, hic, hicm, ess, hri, hai⟩, hbd⟩ := (HK.out.into HBW.out).fn k _ HFK.out
            subst hFA
            have hfbl : fb < wo.heap.size := Nat.lt_of_lt_of_le hfb HBW.out.size
            have hlti : (k : Int) < (nf : Int) := by omega
            have HRI := Lib.hid hri
            have HAI := Lib.hid hai
            have HBD := Lib.hid hbd
            have HHD := Lib.hid (head_ok (HS.out.hd k _ HFK.out))
            have HSTP := Lib.hid (funcs_step HFK.out)
            have HFH := Lib.hid (HL.out.fh _ HFM.out)
            have HIN := Lib.hid (HL.out.ins _ HFM.out)
            generalize hf : K.funcs[k] = f at *
            obtain ⟨ni, hni⟩ : ∃ ni, ni = f.ins.length := ⟨_, rfl⟩
            rw [← hni] at f4 HRI
            have HNI := Lib.hid hni
            have hni20 : ni ≤ 20000 := by rw [hni]; exact HHD.out.2.2.2.2.2.1
            clear hkt hri hai hni hf hfb hic hicm hbd
            have hnm : f.name.size ≤ 8000 := nm_len HHD.out.1
            have hglt := HPR.out.buf.lt
            go_wp2_with fail
            have hF := heap_alloc_new wo (.cells #[.string f.name, .int .i64 f.params, .int .i64 f.slots, .int .i64 f.caps, .slice IA ni ic] 130)
            refine Calls.mono (wText_any w.heap.size g (funcsL K k) f.name _ (HPR.out.buf.keep (al _)) (Nat.le_trans HBW.out.size (by simp)) (by have := HLF.out; omega)) ?_
            rintro e w4 ⟨rfl, hbuf4, hbel4, hk4⟩
            have HP4 := Lib.hid ((HPR.out.keep (al _)).into hbuf4 hbel4 hk4)
            have HF4 := Lib.hid (hk4.blk hF (by omega) (by decide))
            clear hbuf4 hbel4 hk4 hF f0 f1 f2 f3 f4
            have q1 : w4.cell? ⟨wo.heap.size, 1, none⟩ = some (.int .i64 f.params) := by rw [Lib.cell_of_heap HF4.out]; rfl
            have q2 : w4.cell? ⟨wo.heap.size, 2, none⟩ = some (.int .i64 f.slots) := by rw [Lib.cell_of_heap HF4.out]; rfl
            have q3 : w4.cell? ⟨wo.heap.size, 3, none⟩ = some (.int .i64 f.caps) := by rw [Lib.cell_of_heap HF4.out]; rfl
            have q4 : w4.cell? ⟨wo.heap.size, 4, none⟩ = some (.slice IA ni ic) := by rw [Lib.cell_of_heap HF4.out]; rfl
            have hglt4 := HP4.out.buf.lt
            have hflt4 : wo.heap.size < w4.heap.size := (Array.getElem?_eq_some_iff.1 HF4.out).1
            go_wp2_with fail
            refine Calls.mono (wNumbers_any w.heap.size _ w4.heap.size (funcsL K k ++ txL f.name) [f.params, f.slots, f.caps, (ni : Int)] 4 4 _ (HP4.out.buf.weak.keep (al _)) (by omega) (Nat.le_trans HP4.out.bel.size (by simp)) rfl (heap_at _ (by simp)) (by omega) (by have := HBD.out; intro z hz; simp at hz; omega) (by rw [List.length_append]; have := HLF.out; have := HFH.out; omega)) ?_
            rintro e w5 ⟨rfl, hbuf5, hbel5, hk5⟩
            have HP5 := Lib.hid ((HP4.out.keep (al _)).into hbuf5 hbel5 hk5)
            have HF5 := Lib.hid (hk5.blk ((Lib.alloc_old _ _ _ hflt4).trans HF4.out) (by omega) (by decide))
            clear hbuf5 hbel5 hk5 q1 q2 q3 q4
            have q4 : w5.cell? ⟨wo.heap.size, 4, none⟩ = some (.slice IA ni ic) := by rw [Lib.cell_of_heap HF5.out]; rfl
            obtain ⟨L5, hL5⟩ : ∃ L5, L5 = funcsL K k ++ txL f.name ++ numL [f.params, f.slots, f.caps, (ni : Int)] := ⟨_, rfl⟩
            rw [← hL5] at HP5
            have HL5 := Lib.hid hL5
            have hl5 : L5.length ≤ 483648075 := by
              have h1 := numL_len [f.params, f.slots, f.caps, (ni : Int)] (by have := HBD.out; intro z hz; simp at hz; omega)
              have h2 := HLF.out
              have h3 := HFH.out
              rw [hL5, List.length_append, List.length_append]
              simp at h1
              omega
            clear hL5 hflt4 hglt4 hglt
            go_wp2_with fail
            clear q4
            go_loopw [73] (fun v wq => ∃ m : Nat, v = .int .i64 (m : Int) ∧ m ≤ ni ∧ PS w 125 g #[.slice (some ⟨fb, foff, none⟩) nf fc, .slice TA i tc] (L5 ++ (f.ins.take m).flatMap insL) wq) (fun v _ => ni - (intOf v).toNat)
            case atStart => exact ⟨0, rfl, by omega, HP5.out.to (by simp)⟩
            case round =>
              obtain ⟨m, rfl, hmn, hps⟩ := hrel
              have HPQ := Lib.hid hps
              clear hps
              have HLM := Lib.hid (HIN.out m)
              by_cases hlt3 : m < ni
              · have hlt3i : (m : Int) < (ni : Int) := by omega
                have hkl : m < f.ins.length := by have := HNI.out; omega
                have hx := List.getElem?_eq_getElem hkl
                have HBQ := Lib.hid HPQ.out.bel
                obtain ⟨ib, ioff, rfl, hib, e0, e1, e2, e3, e4, e5⟩ := ins_at (HRI.out.keep (w' := wr) fun p hp => (HBQ.out.cell hp).trans (HBW.out.cell hp).symm) (HAI.out.keep (w' := wr) fun p hp => (HBQ.out.cell hp).trans (HBW.out.cell hp).symm) HNI.out hx
                have HBX := Lib.hid (ins_bd HRI.out HAI.out HNI.out hx)
                have hibl : ib < wr.heap.size := Nat.lt_of_lt_of_le hib HBQ.out.size
                have HTK := Lib.hid (flat_snoc insL f.ins m hx)
                have hglt := HPQ.out.buf.lt
                generalize f.ins[m] = x at *
                obtain ⟨x0, x1, x2, x3, x4, x5⟩ := x
                simp only at e0 e1 e2 e3 e4 e5 HBX
                clear hx hkl hib
                go_wp2_with fail
                refine Calls.mono (wNumbers_any w.heap.size _ (wr.heap.size + 1) (L5 ++ (f.ins.take m).flatMap insL) [x0, x1, x2, x3, x4, x5] 6 6 _ ((HPQ.out.buf.weak.keep (al _)).keep (al _)) (by omega) (Nat.le_trans HBQ.out.size (by simp; omega)) rfl (heap_at _ (by simp)) (by omega) (by have := HBX.out; intro z hz; simp at hz; omega) (by rw [List.length_append]; have := HLM.out; omega)) ?_
                rintro e w7 ⟨rfl, hbuf7, hbel7, hk7⟩
                have HP7 := Lib.hid ((((HPQ.out.keep (al _)).keep (al _)).into hbuf7 hbel7 hk7).to (L' := L5 ++ (f.ins.take (m + 1)).flatMap insL) (by rw [HTK.out, List.append_assoc]; rfl))
                clear hbuf7 hbel7 hk7 e0 e1 e2 e3 e4 e5
                go_wp2_with fail
                go_roundw
                case rel => exact ⟨m + 1, by go_num, by omega, HP7.out⟩
                case measure => simp [intOf]; omega
              · obtain rfl : m = ni := by omega
                have HP9 := Lib.hid (HPQ.out.to (L' := funcsL K (k + 1)) (by rw [HSTP.out, HL5.out, fnL, HNI.out, List.take_length]; simp only [List.append_assoc]))
                go_wp2_with fail
                go_roundw
                case rel => exact ⟨k + 1, by go_num, by omega, HP9.out⟩
                case measure => simp [intOf]; omega
          · obtain rfl : k = nf := by omega
            obtain ⟨A, c1, hgb, hown⟩ := HPR.out.buf.opens
            have hle := HLF.out
            have HL8 := Lib.hid (show funcsL K k = packB K by rw [packB, HNF.out])
            rw [HL8.out] at hgb hown hle
            have d0 : wo.cell? ⟨g, 0, none⟩ = some (.slice A (packB K).length c1) := by rw [Lib.cell_of_heap hgb]; rfl
            have HOW := Lib.hid hown
            have hglt := HPR.out.buf.lt
            have HRD := Lib.hid (Rd.of_own hown)
            have HPB := Lib.hid (packB_wf K)
            have HBW := Lib.hid HPR.out.bel
            obtain ⟨PB, hPB⟩ : ∃ PB, PB = packB K := ⟨_, rfl⟩
            rw [← hPB] at d0 HOW hle HRD HPB HP1
            clear hgb hown hPB HL8
            obtain ⟨n, hn⟩ : ∃ n, n = PB.length := ⟨_, rfl⟩
            have HN2 := Lib.hid (show ((yP (by_ PB) n : Int) * 65536 + (xOf (by_ PB) n : Int)) = sumP PB by unfold sumP; rw [hn])
            have hbd := sumP_bd PB
            rw [← hn] at d0 HOW HRD hle
            clear hn
            go_wp2_with fail
            refine Calls.mono (imageSum_any A n c1 PB _ HRD.out HPB.out (by omega)) ?_
            rintro e w8 ⟨rfl, rfl⟩
            rw [HN2.out]
            generalize sumP PB = sm at *
            clear HN2
            go_wp2_with (at_builtin; refine wpList_append_rd _ rfl _ _ 72 rfl w.heap.size 5 i0 _ 1 1 Try.underlying72 hi hz0 hz1 hz2 rfl (by omega) _ _ _ rfl (HOW.out.alloc _) _ _ 4 4 _ rfl (Rd.lit _ _ _ 4 1 rfl) (by simp [Value.oneCell']) (by unfold maxLen; omega) (by omega) (Nat.le_trans HBW.out.size (by simp)) ?_; intro A3 c3 w9 hown9 hgrow9 _)
            go_returns
            refine HP1.out H0.out (n := n + 4) ?_ (by omega) (below_grown (HBW.out.alloc HBW.out.size _) (Nat.le_trans HBW.out.size (by simp)) (HOW.out.alloc _) (Nat.le_refl _) hgrow9)
            have h9 := Rd.of_own hown9
            rw [List.map_append]
            exact h9
  · have b0 : (s0 != 0) = true := by simpa using h0
    have H0 := Lib.hid h0
    clear h0
    go_enter Try.func28, Try.ntmps28
    go_wp2_with fail
    refine (HSD.out _ (al _)).mono ?_
    rintro e w1 ⟨rfl, hb1⟩
    have HB1 := Lib.hid (sq (al _) hb1)
    clear hb1 HSD
    go_wp2_with fail
    go_quiet (fail)
    go_wp2_with fail
    go_returns
    exact HP0.out H0.out _ (dr (sq HB1.out (al _)) _)
end
end Go.Proofs.Ytegpaniooigbdaa
