/- The document's 'Squeeze'. Conditions: the code fits what comes in. -/
import Derived.Test.YtapbdfcihheecaaSqG
import Derived.Test.YtapbdfcihheecaaSqK
import Derived.Test.YtapbdfcihheecaaSmC
import Derived.Test.YtapbdfcihheecaaCdT
set_option maxRecDepth 100000
namespace Go.Proofs.Ytapbdfcihheecaa
open Go.ChangeShapes Go.WideShapes Go.ChangeAt Go.RowKit
theorem heap_setN' {w : World} {g : Nat} {cs : Array Value} {t : TypeId} (hg : w.heap[g]? = some (.cells cs t (0, 0))) (j : Nat) (v : Value) : (w.setCell ⟨g, j, none⟩ v).heap[g]? = some (.cells (cs.setIfInBounds j v) t (0, 0)) := by
  simp [World.setCell, Array.getElem?_modify, hg]
theorem heap_at2 (w : World) (o o' : Obj) : ((w.alloc o).alloc o').heap[w.heap.size]? = some o ∧ ((w.alloc o).alloc o').heap[w.heap.size + 1]? = some o' :=
  ⟨(Lib.alloc_old _ _ _ (by simp)).trans (heap_alloc_new w o), by have := heap_alloc_new (w.alloc o) o'; simpa using this⟩
def oneK (l : List II) : KK := ⟨[⟨⟨#[]⟩, 0, 0, 0, l⟩], []⟩
theorem one_kr {W : World} {B g m c : Nat} {A : Option Addr} {l : List II} (hg : W.heap[g]? = some (.cells #[.string ⟨#[]⟩, .int .i64 0, .int .i64 0, .int .i64 0, .slice A m c] 123 (0, 0))) (hgB : g < B) (hi : InsR W B A m l) (hc : m ≤ c) (hcm : c ≤ maxLen) (hl : m ≤ 20000) : KR W B (some ⟨g, 0, none⟩) none (oneK l) := by
  obtain ⟨rfl, ess, hr, ha⟩ := hi
  refine ⟨fun k f hf => ?_, ⟨rfl, fun h => absurd h (by simp [oneK])⟩, by simp [oneK], fun f hf => (by simp [oneK] at hf; subst hf; show (ByteArray.mk #[]).size ≤ _; decide), by simp [oneK], by simp [oneK], ?_⟩
  · have hk : k = 0 := by
      have := (List.getElem?_eq_some_iff.1 hf).1
      simp [oneK] at this
      exact this
    subst hk
    simp [oneK] at hf
    subst hf
    refine ⟨⟨g, 0, A, c, rfl, hgB, ?_, ?_, ?_, ?_, ?_, hc, hcm, ess, hr, ha⟩, by simp, by simp, by simp⟩
    all_goals (rw [Lib.cell_of_heap hg]; rfl)
  · intro f hf
    simp [oneK] at hf
    subst hf
    show l.length ≤ _
    omega
theorem InsM.below_of {w : World} {B z n : Nat} {A : Option Addr} {l : List II} (h : InsR w B A n l) (hB : B ≤ z) (hw : w.heap.size = z + 1) : InsM w (fun b => b < w.heap.size ∧ b ≠ z) A n l := by
  obtain ⟨hn, ess, hr, ha⟩ := h
  exact ⟨hn, ess, hr.more fun b hb => ⟨by omega, by omega⟩, ha.more fun b hb => ⟨by omega, by omega⟩⟩
set_option maxHeartbeats 8000000 in
theorem refSqueeze_any (K : KK) (FA TA : Option Addr) (fc tc nf nt : Nat) (w : World) (hnf : nf = K.funcs.length) (hnt : nt = K.texts.length) (hk : KR w w.heap.size FA TA K) :
    Calls Try.prog 27 #[.agg #[.slice FA nf fc, .slice TA nt tc]] w (SqzPost K w) := by
  obtain ⟨j0, hj, jz0, jz1, jz2⟩ := info_parts info_fn
  obtain ⟨ts0, hts, tsz0, tsz1, tsz2⟩ := info_parts info_str
  have HNF := Lib.hid hnf
  have HNT := Lib.hid hnt
  have HK := Lib.hid hk
  have HSD := Lib.hid (fun W (hW : Below w.heap.size w W) => refSound_any FA TA fc tc K nf nt W HNF.out HNT.out ((HK.out.into hW).more hW.size))
  have HSN := Lib.hid (fun h => Snd.of (K := K) h)
  have HP0 := Lib.hid (fun h w' => @SqzPost.no K w w' h)
  have HP1 := Lib.hid (show ∀ e w', (soundV K).1 = 0 → (∃ J FA fc TA tc, SqzK K J ∧ e = .returned (.tuple #[.agg #[.slice FA J.funcs.length fc, .slice TA J.texts.length tc], .int .i64 0]) ∧ KR w' w'.heap.size FA TA J) → Below w.heap.size w w' → SqzPost K w e w' from fun e w' h h1 hb => ⟨.inr ⟨h, h1⟩, hb⟩)
  clear hnf hnt hk
  generalize soundV K = sv at *
  obtain ⟨s0, s1, s2⟩ := sv
  unfold fixV at HSD
  simp only at HSD HSN HP0 HP1
  by_cases h0 : s0 = 0
  · have b0 : (s0 != 0) = false := by simpa using h0
    have H0 := Lib.hid h0
    have HS := Lib.hid (HSN.out h0)
    have hnf4 : nf ≤ 400 := by have := HNF.out; have := HS.out.nf; omega
    have hnt2 : nt ≤ 2000 := by have := HNT.out; have := HS.out.nt; omega
    clear h0 HSN HP0
    go_enter Try.func27, Try.ntmps27
    go_wp2_with fail
    refine (HSD.out _ (sq (al _) (al _))).mono ?_
    rintro e w1 ⟨rfl, hb1⟩
    have hbc := (hb1.block w.heap.size (by simp; omega)).trans ((Lib.alloc_old _ _ _ (by simp)).trans (heap_alloc_new w _))
    have hbr := (hb1.block (w.heap.size + 1) (by simp)).trans (heap_at (w := w.alloc (.cells #[.slice FA nf fc, .slice TA nt tc] 71)) (.cells #[.slice none 0 0, .slice none 0 0] 71) (by simp))
    have HB1 := Lib.hid (sq (sq (al _) (al _)) hb1)
    have hz1 : w.heap.size + 1 < w1.heap.size := (Array.getElem?_eq_some_iff.1 hbr).1
    have c1 : w1.cell? ⟨w.heap.size, 1, none⟩ = some (.slice TA nt tc) := by rw [Lib.cell_of_heap hbc]; rfl
    have HBC := Lib.hid hbc
    have HBR := Lib.hid hbr
    have hcx : (w1.alloc (.cells #[.int .i64 s0, .int .i64 s1, .int .i64 s2] 118)).cell? ⟨w.heap.size, 1, none⟩ = some (.slice TA nt tc) := (World.cell?_alloc_lt _ _ _ (by show w.heap.size < _; omega)).trans c1
    clear hb1 HSD hbc hbr
    generalize hwf : w1.alloc (.cells #[.int .i64 s0, .int .i64 s1, .int .i64 s2] 118) = wf at *
    have hwz : w1.heap.size < wf.heap.size := by rw [← hwf]; simp
    have HBF := Lib.hid (show Below w.heap.size w wf from sq HB1.out (hwf ▸ al _))
    have HBCF := Lib.hid (show wf.heap[w.heap.size]? = some (.cells #[.slice FA nf fc, .slice TA nt tc] 71 (0, 0)) by rw [← hwf, Lib.alloc_old _ _ _ (by omega)]; exact HBC.out)
    have HBRF := Lib.hid (show wf.heap[w.heap.size + 1]? = some (.cells #[.slice none 0 0, .slice none 0 0] 71 (0, 0)) by rw [← hwf, Lib.alloc_old _ _ _ (by omega)]; exact HBR.out)
    have HRT := Lib.hid (show Rd wf wf.heap.size 1 TA nt (K.texts.map Value.string) by rw [HNT.out]; exact ((HK.out.into HBF.out).more HBF.out.size).tx)
    subst hwf
    clear HB1 HBC HBR c1
    go_wp2_with (at_builtin; refine wpList_append_new _ rfl _ _ 69 rfl 9 ts0 _ 1 16 Try.underlying69 hts tsz0 tsz1 tsz2 rfl (by omega) rfl _ TA nt tc (K.texts.map Value.string) rfl HRT.out (strs_oneCell _) (by omega) (by unfold maxLen; omega) ?_; intro TA2 tc2 w2 hown2 hb2; have hq2 : w.heap.size < w2.heap.size := (by have := hb2.size; simp at this; omega); have c0 := (World.cell?_alloc_lt w2 (.cells #[.slice none 0 0, .slice TA2 nt tc2] 71) ⟨w.heap.size, 0, none⟩ hq2).trans (show w2.cell? ⟨w.heap.size, 0, none⟩ = some (.slice FA nf fc) from (by rw [Lib.cell_of_heap ((hb2.block w.heap.size (by simp; omega)).trans HBCF.out)]; rfl)))
    clear c0 hq2
    clear hcx
    generalize hwf : w1.alloc (.cells #[.int .i64 s0, .int .i64 s1, .int .i64 s2] 118) = wf at *
    clear hwf
    have hz2 : wf.heap.size ≤ w2.heap.size := hb2.size
    have HBCF2 := Lib.hid (show w2.heap[w.heap.size]? = some (.cells #[.slice FA nf fc, .slice TA nt tc] 71 (0, 0)) from (hb2.block _ (by omega)).trans HBCF.out)
    have HBRF2 := Lib.hid (show w2.heap[w.heap.size + 1]? = some (.cells #[.slice none 0 0, .slice none 0 0] 71 (0, 0)) from (hb2.block _ (by omega)).trans HBRF.out)
    have HB2 := Lib.hid (sq HBF.out hb2)
    have HDD := Lib.hid (show DD (.slice none 0 0) TA2 nt tc2 w2.heap.size (w2.alloc (.cells #[.slice none 0 0, .slice TA2 nt tc2] 71)) from ⟨by simp, by simp [go_sem], by simp [go_sem], by simp [go_sem]⟩)
    have HTX := Lib.hid ((RdM.of_own hown2).more (M' := fun b => w.heap.size + 1 < b ∧ b < w2.heap.size) (fun b h => by have := h.1; exact ⟨by omega, h.2⟩))
    clear hown2 hb2 HBCF HBRF
    have HDX := Lib.hid (show DX FA TA nf nt fc tc w.heap.size w2 from ⟨by omega,
      by rw [Lib.cell_of_heap HBCF2.out]; rfl, by rw [Lib.cell_of_heap HBCF2.out]; rfl, by rw [Lib.cell_of_heap HBRF2.out]; rfl, by rw [Lib.cell_of_heap HBRF2.out]; rfl, Lib.frozen_of_heap HBRF2.out 0, Lib.frozen_of_heap HBRF2.out 1⟩)
    clear HBCF2 HBRF2
    go_loopw [24] (fun i wr => ∃ (k : Nat) (v : Value) (L : List FF), k ≤ nf ∧ i = .int .i64 (k : Int) ∧ L.length = k ∧ SqzL K.funcs L ∧ Own FF.sh 123 wr (w2.heap.size + 1) (· < w2.heap.size + 1) v L ∧ DD v TA2 nt tc2 w2.heap.size wr ∧ Below w2.heap.size w2 wr) (fun i _ => nf - (intOf i).toNat)
    case atStart => exact ⟨0, .slice none 0 0, [], Nat.zero_le _, rfl, rfl, SqzL.nil _, Own.nil, HDD.out, al _⟩
    case round =>
      obtain ⟨k, v, L, hk, rfl, hLk, hSL, hown, hdd, hbel⟩ := hrel
      generalize wr = wo at *
      have HSL := Lib.hid hSL
      have HLK := Lib.hid hLk
      have HDXR := Lib.hid (HDX.out.into hbel (by omega))
      have HBE := Lib.hid hbel
      have HO := Lib.hid hown
      have HDR := Lib.hid hdd
      have HBW := Lib.hid (show Below w.heap.size w wo from HB2.out.trans (hbel.mono HB2.out.size))
      have HGR := Lib.hid (show w2.heap.size + 1 ≤ wo.heap.size from hdd.z)
      obtain ⟨A0, c0, hv⟩ := hown.form
      rw [hLk] at hv
      subst hv
      clear hown hdd hbel hLk hSL
      obtain ⟨zr, p0, p1, r0, r1, z0, z1⟩ := HDXR.out
      obtain ⟨zd, d0, d1, f0⟩ := HDR.out
      by_cases hlt : k < nf
      · obtain ⟨x, hx⟩ : ∃ x, K.funcs[k]? = some x := ⟨_, List.getElem?_eq_getElem (by have := HNF.out; omega)⟩
        obtain ⟨⟨b, off, A4, c4, rfl, hb, e0, e1, e2, e3, e4, hc4, hm4, es, r4, a4⟩, q1, q2, q3⟩ := (HK.out.fn k x hx).into HBW.out
        have HG := Lib.hid (HS.out.gd hx)
        have HX := Lib.hid hx
        have HIR := Lib.hid (show InsR wo w.heap.size A4 x.ins.length x.ins from ⟨rfl, es, r4, a4⟩)
        have HQ1 := Lib.hid q1
        have HQ2 := Lib.hid q2
        have HQ3 := Lib.hid q3
        have hlti : (k : Int) < (nf : Int) := by omega
        have hzw : w.heap.size < wo.heap.size := by omega
        have hbr : b < wo.heap.size := by omega
        clear hx r4 a4 q1 q2 q3
        generalize hn : x.ins.length = n at *
        have HN := Lib.hid hn
        have hn2 : n ≤ 20000 := HG.out.2
        clear hn
        go_wp2_with fail
        have hbx := heap_alloc_new wo (.cells #[.string x.name, .int .i64 x.params, .int .i64 x.slots, .int .i64 x.caps, .slice A4 n c4] 123)
        generalize hwa : wo.alloc (.cells #[.string x.name, .int .i64 x.params, .int .i64 x.slots, .int .i64 x.caps, .slice A4 n c4] 123) = wa at *
        have hwz4 : wa.heap.size = wo.heap.size + 1 := by rw [← hwa]; simp
        have HBA := Lib.hid (show Below wo.heap.size wo wa from hwa ▸ al _)
        have HBX := Lib.hid hbx
        clear hwa hbx
        have hbo : w.heap.size ≤ wo.heap.size := by omega
        have HI0 := Lib.hid (show InsM wa (fun b => b < wa.heap.size ∧ b ≠ wo.heap.size) A4 n x.ins from (InsM.below_of (HIR.out.below (HBA.out.mono hbo)) hbo hwz4))
        have HC0 := Lib.hid (show n ≤ c4 ∧ c4 ≤ maxLen from ⟨hc4, hm4⟩)
        have gx0 : wa.cell? ⟨wo.heap.size, 4, none⟩ = some (.slice A4 n c4) := by rw [Lib.cell_of_heap HBX.out]; rfl
        go_wp2_with fail
        refine Calls.mono (round_any A4 n c4 x.ins wa (HI0.out.r fun b h => h.1) HG.out.1 (by omega)) ?_
        rintro e w4 ⟨A5, n5, c5, rfl, h5, hc5, hb5⟩
        have hbx5 := (hb5.block wo.heap.size (by omega)).trans HBX.out
        have gf5 := Lib.frozen_of_heap hbx5 4
        have gx5 : w4.cell? ⟨wo.heap.size, 4, none⟩ = some (.slice A4 n c4) := by rw [Lib.cell_of_heap hbx5]; rfl
        have HBX5 := Lib.hid hbx5
        have HB5 := Lib.hid (show Below wo.heap.size wo w4 from HBA.out.trans (hb5.mono (by omega)))
        have HI5 := Lib.hid (h5.more (M' := fun b => wo.heap.size < b ∧ b < w4.heap.size) fun b h => ⟨by have := h.1; omega, h.2⟩)
        have HIA := Lib.hid ((HI0.out.keep fun p hp => hb5.cell hp.1).more (M' := fun b => b < w4.heap.size ∧ b ≠ wo.heap.size) fun b h => ⟨Nat.lt_of_lt_of_le h.1 hb5.size, h.2⟩)
        have HC5 := Lib.hid hc5
        clear h5 hc5 hb5 hbx5 gx0
        go_wp2_with fail
        clear gx5 gf5
        have HBX6 := Lib.hid (heap_setN' HBX5.out 4 (.slice A5 n5 c5))
        have HB6 := Lib.hid (HB5.out.setCell (p := ⟨wo.heap.size, 4, none⟩) (Nat.le_refl _) (.slice A5 n5 c5))
        have HI6 := Lib.hid (show InsM (w4.setCell ⟨wo.heap.size, 4, none⟩ (.slice A5 n5 c5)) (fun b => wo.heap.size < b ∧ b < (w4.setCell ⟨wo.heap.size, 4, none⟩ (.slice A5 n5 c5)).heap.size) A5 n5 (onceV x.ins) from (HI5.out.keep fun p hp => World.cell?_of_block (Below.heap_setCell _ _ _ _ (by have := hp.1; show p.block ≠ wo.heap.size; omega))).more fun b h => ⟨h.1, by simpa using h.2⟩)
        have HIB := Lib.hid (show InsM (w4.setCell ⟨wo.heap.size, 4, none⟩ (.slice A5 n5 c5)) (fun b => b < (w4.setCell ⟨wo.heap.size, 4, none⟩ (.slice A5 n5 c5)).heap.size ∧ b ≠ wo.heap.size) A4 n x.ins from (HIA.out.keep fun p hp => World.cell?_of_block (Below.heap_setCell _ _ _ _ hp.2)).more fun b h => ⟨by simpa using h.1, h.2⟩)
        clear HI5 HIA HB5 HBX5 HI0
        generalize w4.setCell ⟨wo.heap.size, 4, none⟩ (.slice A5 n5 c5) = ws at *
        go_loopw [8] (fun v wz => ∃ (l : List II) (A : Option Addr) (m c : Nat) (A' : Option Addr) (m' c' : Nat), v = .slice A m c ∧ InsM wz (fun b => b < wz.heap.size ∧ b ≠ wo.heap.size) A m l ∧ (m ≤ c ∧ c ≤ maxLen) ∧ Gd l ∧ m ≤ 20000 ∧ Hid (∀ y, Sqz l y → Sqz x.ins y) ∧ Hid (InsM wz (fun b => wo.heap.size < b ∧ b < wz.heap.size) A' m' (onceV l)) ∧ Hid (CapR A' m' c') ∧ Below wo.heap.size wo wz ∧ Hid (wz.heap[wo.heap.size]? = some (.cells #[.string x.name, .int .i64 x.params, .int .i64 x.slots, .int .i64 x.caps, .slice A' m' c'] 123 (0, 0)))) (fun v wz => insMu v wz)
        case atStart => exact ⟨x.ins, A4, n, c4, A5, n5, c5, rfl, HIB.out, HC0.out, HG.out.1, hn2, Lib.hid (fun _ h => h), HI6, HC5, HB6.out, HBX6⟩
        case round =>
          obtain ⟨l, A, m, c, A6, m6, c6, rfl, him, hcap, hgd, hm, HSQ, HI6, HC6, hbz, HBZX⟩ := hrel
          have HIM := Lib.hid him
          have HCP := Lib.hid hcap
          have HGD := Lib.hid hgd
          have HBZ := Lib.hid hbz
          have hm6 : m6 ≤ 20000 := by
            have h1 := once_len l
            have h2 := him.1
            have h3 := HI6.out.1
            omega
          have hzz : wo.heap.size < wr.heap.size := (Array.getElem?_eq_some_iff.1 HBZX.out).1
          have gx : wr.cell? ⟨wo.heap.size, 4, none⟩ = some (.slice A6 m6 c6) := by rw [Lib.cell_of_heap HBZX.out]; rfl
          clear him hcap hgd hbz
          go_wp2_with fail
          have hga := heap_at2 wr (.cells #[.string ⟨#[]⟩, .int .i64 0, .int .i64 0, .int .i64 0, .slice A m c] 123) (.cells #[.string ⟨#[]⟩, .int .i64 0, .int .i64 0, .int .i64 0, .slice A6 m6 c6] 123)
          have hba := sq (al (w := wr) (.cells #[.string ⟨#[]⟩, .int .i64 0, .int .i64 0, .int .i64 0, .slice A m c] 123)) (al (.cells #[.string ⟨#[]⟩, .int .i64 0, .int .i64 0, .int .i64 0, .slice A6 m6 c6] 123))
          have hsz : ((wr.alloc (.cells #[.string ⟨#[]⟩, .int .i64 0, .int .i64 0, .int .i64 0, .slice A m c] 123)).alloc (.cells #[.string ⟨#[]⟩, .int .i64 0, .int .i64 0, .int .i64 0, .slice A6 m6 c6] 123)).heap.size = wr.heap.size + 2 := by simp
          generalize (wr.alloc (.cells #[.string ⟨#[]⟩, .int .i64 0, .int .i64 0, .int .i64 0, .slice A m c] 123)).alloc (.cells #[.string ⟨#[]⟩, .int .i64 0, .int .i64 0, .int .i64 0, .slice A6 m6 c6] 123) = wb at *
          clear gx
          refine Calls.mono (sameCode_any (some ⟨wr.heap.size, 0, none⟩) none (some ⟨wr.heap.size + 1, 0, none⟩) none 1 0 1 0 (oneK l) (oneK (onceV l)) 1 0 1 0 wb rfl rfl rfl rfl
            (one_kr hga.1 (by omega) ((HIM.out.keep fun p hp => hba.cell hp.1).r fun b h => by have := h.1; omega) HCP.out.1 HCP.out.2 hm)
            (one_kr hga.2 (by omega) ((HI6.out.keep fun p hp => hba.cell hp.2).r fun b h => by have := h.2; omega) HC6.out.1 HC6.out.2.1 hm6)) ?_
          rintro e w5 ⟨⟨bq, rfl, hbq⟩, hb5⟩
          have hb5' := sq hba hb5
          have hbx5 := (hb5'.block wo.heap.size hzz).trans HBZX.out
          have HBX5 := Lib.hid hbx5
          have HZ5 := Lib.hid hb5'.size
          have HB5 := Lib.hid (HBZ.out.trans (hb5'.mono (Nat.le_of_lt hzz)))
          have HI5 := Lib.hid ((HI6.out.keep fun p hp => hb5'.cell hp.2).more (M' := fun b => wo.heap.size < b ∧ b < w5.heap.size) fun b h => ⟨h.1, Nat.lt_of_lt_of_le h.2 hb5'.size⟩)
          have hz5 : wo.heap.size < w5.heap.size := (Array.getElem?_eq_some_iff.1 hbx5).1
          clear hga hba hsz hb5 hb5' hbx5
          cases bq with
          | false =>
            have hne : onceV l ≠ l := fun h => by have := hbq.2 (by unfold oneK; rw [h]); cases this
            have HSN := Lib.hid (fun y (h : Sqz (onceV l) y) => HSQ.out y (.step hne h))
            have HMU := Lib.hid (once_less HGD.out hne)
            have HMA := Lib.hid (insMu_of (c := c) (HIM.out.r fun b h => h.1))
            have gx : w5.cell? ⟨wo.heap.size, 4, none⟩ = some (.slice A6 m6 c6) := by rw [Lib.cell_of_heap HBX5.out]; rfl
            clear hne hbq
            go_wp2_with fail
            refine Calls.mono (round_any A6 m6 c6 (onceV l) w5 (HI5.out.r fun b h => h.2) HGD.out.once (by omega)) ?_
            rintro e w6 ⟨A7, m7, c7, rfl, h7, hc7, hb6⟩
            have hbx6 := (hb6.block wo.heap.size hz5).trans HBX5.out
            have gf := Lib.frozen_of_heap hbx6 4
            have gx6 : w6.cell? ⟨wo.heap.size, 4, none⟩ = some (.slice A6 m6 c6) := by rw [Lib.cell_of_heap hbx6]; rfl
            have HB6 := Lib.hid (HB5.out.trans (hb6.mono (Nat.le_of_lt hz5)))
            have HBX6 := Lib.hid hbx6
            have HI7 := Lib.hid (h7.more (M' := fun b => wo.heap.size < b ∧ b < w6.heap.size) fun b h => ⟨by have := h.1; omega, h.2⟩)
            have HIC := Lib.hid ((HI5.out.keep fun p hp => hb6.cell hp.2).more (M' := fun b => b < w6.heap.size ∧ b ≠ wo.heap.size) fun b h => ⟨Nat.lt_of_lt_of_le h.2 hb6.size, by have := h.1; omega⟩)
            have HC7 := Lib.hid hc7
            clear h7 hc7 hb6 hbx6 gx
            go_wp2_with fail
            have HBX7 := Lib.hid (heap_setN' HBX6.out 4 (.slice A7 m7 c7))
            have HB7 := Lib.hid (HB6.out.setCell (p := ⟨wo.heap.size, 4, none⟩) (Nat.le_refl _) (.slice A7 m7 c7))
            have HI8 := Lib.hid (show InsM (w6.setCell ⟨wo.heap.size, 4, none⟩ (.slice A7 m7 c7)) (fun b => wo.heap.size < b ∧ b < (w6.setCell ⟨wo.heap.size, 4, none⟩ (.slice A7 m7 c7)).heap.size) A7 m7 (onceV (onceV l)) from (HI7.out.keep fun p hp => World.cell?_of_block (Below.heap_setCell _ _ _ _ (by have := hp.1; show p.block ≠ wo.heap.size; omega))).more fun b h => ⟨h.1, by simpa using h.2⟩)
            have HID := Lib.hid (show InsM (w6.setCell ⟨wo.heap.size, 4, none⟩ (.slice A7 m7 c7)) (fun b => b < (w6.setCell ⟨wo.heap.size, 4, none⟩ (.slice A7 m7 c7)).heap.size ∧ b ≠ wo.heap.size) A6 m6 (onceV l) from (HIC.out.keep fun p hp => World.cell?_of_block (Below.heap_setCell _ _ _ _ hp.2)).more fun b h => ⟨by simpa using h.1, h.2⟩)
            clear HI7 HIC HB6 HBX6 gx6 gf
            generalize w6.setCell ⟨wo.heap.size, 4, none⟩ (.slice A7 m7 c7) = w7 at *
            go_roundw
            case rel => exact ⟨onceV l, A6, m6, c6, A7, m7, c7, rfl, HID.out, ⟨HC6.out.1, HC6.out.2.1⟩, HGD.out.once, hm6, HSN, HI8, HC7, HB7.out, HBX7⟩
            case measure =>
              rw [HMA.out, insMu_of (HID.out.r fun b h => h.1)]
              exact HMU.out
          | true =>
            have HEQ := Lib.hid (show onceV l = l from by
              have := hbq.1 rfl
              unfold oneK at this
              injection this with this _
              injection this with this _
              injection this with _ _ _ _ this
              exact this.symm)
            have HSZ := Lib.hid (HSQ.out l (.done HEQ.out))
            have HI7 := Lib.hid (show InsM w5 (fun b => wo.heap.size < b ∧ b < w5.heap.size) A6 m6 l from by have := HI5.out; rwa [HEQ.out] at this)
            have g0 : w5.cell? ⟨wo.heap.size, 0, none⟩ = some (.string x.name) := by rw [Lib.cell_of_heap HBX5.out]; rfl
            have g1 : w5.cell? ⟨wo.heap.size, 1, none⟩ = some (.int .i64 x.params) := by rw [Lib.cell_of_heap HBX5.out]; rfl
            have g2 : w5.cell? ⟨wo.heap.size, 2, none⟩ = some (.int .i64 x.slots) := by rw [Lib.cell_of_heap HBX5.out]; rfl
            have g3 : w5.cell? ⟨wo.heap.size, 3, none⟩ = some (.int .i64 x.caps) := by rw [Lib.cell_of_heap HBX5.out]; rfl
            have g4 : w5.cell? ⟨wo.heap.size, 4, none⟩ = some (.slice A6 m6 c6) := by rw [Lib.cell_of_heap HBX5.out]; rfl
            have o0 : w5.cell? ⟨w2.heap.size, 0, none⟩ = some (.slice A0 k c0) := (HB5.out.cell (p := ⟨w2.heap.size, 0, none⟩) zd).trans d0
            have of : w5.frozen? ⟨w2.heap.size, 0, none⟩ = false := (HB5.out.frozen (p := ⟨w2.heap.size, 0, none⟩) zd).trans f0
            obtain rfl : m6 = l.length := HI7.out.1
            clear hbq
            have HW8 := Lib.hid (show Below wo.heap.size wo (w5.alloc (.cells #[.string x.name, .int .i64 x.params, .int .i64 x.slots, .int .i64 x.caps, .slice A6 l.length c6] 123)) from HB5.out.alloc (by omega) _)
            have HFI := Lib.hid (HO.out.fresh HW8.out (by
              obtain ⟨_, ess, hr, ha⟩ := (HI7.out.keep (w' := w5.alloc (.cells #[.string x.name, .int .i64 x.params, .int .i64 x.slots, .int .i64 x.caps, .slice A6 l.length c6] 123)) (fun p hp => World.cell?_alloc_lt _ _ _ hp.2)).more (M' := fun b => wo.heap.size ≤ b ∧ b < (w5.alloc (.cells #[.string x.name, .int .i64 x.params, .int .i64 x.slots, .int .i64 x.caps, .slice A6 l.length c6] 123)).heap.size) (fun b h => ⟨Nat.le_of_lt h.1, by have := h.2; simp; omega⟩)
              exact FF.intro (v := ⟨x.name, x.params, x.slots, x.caps, l⟩) HQ1.out HQ2.out HQ3.out hr ha HC6.out) (fun _ h => Nat.lt_of_lt_of_le h HGR.out))
            go_wp2_with (first
              | (at_builtin; refine wpList_append_Own (S := FF.sh) rfl _ _ 68 rfl (w2.heap.size + 1) 123 j0 _ 64 Try.underlying68 hj jz0 jz1 jz2 rfl (by show 0 < 5; omega) (· < w2.heap.size + 1) _ _ rfl HFI.out.1 _ _ 1 1 _ _ [(⟨x.name, x.params, x.slots, x.caps, l⟩ : FF)] rfl (Rd.one _ _ _ 5 rfl _ (by simp)) (by simp) rfl HFI.out.2 (by rw [HLK.out]; unfold maxLen; omega) (by rw [HLK.out]; omega) (Nat.le_trans HGR.out HW8.out.size) ?_; intro A9 c9 w9 hown9 hgrow9 _; have HD9 := Lib.hid ((HDR.out.into HW8.out).grown hgrow9 (fun e => by have := (HO.out.ownlt e).1; omega)); obtain ⟨zd9, d09, d19, f09⟩ := HD9.out)
              | fail "no")
            have HBW9 := Lib.hid ((HBE.out.trans (HW8.out.mono HBE.out.size)).grown hgrow9 (by simp; omega) (fun q hq => by have := (HO.out.ownlt hq).1; omega))
            go_roundw
            case rel =>
              rw [HLK.out] at hown9 ⊢
              refine ⟨k + 1, .slice A9 (k + 1) c9, L ++ [⟨x.name, x.params, x.slots, x.caps, l⟩], by omega, by go_num, by simp [HLK.out], HSL.out.snoc (f := x) (by rw [HLK.out]; exact HX.out) ⟨rfl, rfl, rfl, rfl, HSZ.out⟩, ?_, HD9.out.put _, HBW9.out.setCell (Nat.le_refl _) _⟩
              exact hown9.keep (w' := w9.setCell ⟨w2.heap.size, 0, none⟩ (.slice A9 (k + 1) c9)) (by simp) (fun q _ hE => Below.heap_setCell _ _ _ _ (by show q ≠ w2.heap.size; omega)) (fun q hq hE => by have := (hown9.ownlt hq).1; omega)
            case measure => simp [intOf]; omega
      · obtain rfl : k = nf := by omega
        go_wp2_with fail
        have hkb : ∀ q, q ≠ w.heap.size + 1 → ((wo.setCell ⟨w.heap.size + 1, 0, none⟩ (.slice A0 k c0)).setCell ⟨w.heap.size + 1, 1, none⟩ (.slice TA2 nt tc2)).heap[q]? = wo.heap[q]? := fun q hq => by rw [Below.heap_setCell _ _ _ _ hq, Below.heap_setCell _ _ _ _ hq]
        have hbf : Below w.heap.size w ((wo.setCell ⟨w.heap.size + 1, 0, none⟩ (.slice A0 k c0)).setCell ⟨w.heap.size + 1, 1, none⟩ (.slice TA2 nt tc2)) := (HBW.out.setCell (p := ⟨w.heap.size + 1, 0, none⟩) (Nat.le_succ _) _).setCell (p := ⟨w.heap.size + 1, 1, none⟩) (Nat.le_succ _) _
        have hsz : wo.heap.size ≤ ((wo.setCell ⟨w.heap.size + 1, 0, none⟩ (.slice A0 k c0)).setCell ⟨w.heap.size + 1, 1, none⟩ (.slice TA2 nt tc2)).heap.size := by simp
        refine bodyPost_ret (v := .tuple #[.agg #[.slice A0 k c0, .slice TA2 nt tc2], .int .i64 0]) (by simp [results, Try.results27, go_sem, r0, r1]) rfl (HP1.out _ _ H0.out ?_ hbf)
        generalize ((wo.setCell ⟨w.heap.size + 1, 0, none⟩ (.slice A0 k c0)).setCell ⟨w.heap.size + 1, 1, none⟩ (.slice TA2 nt tc2)) = wq at *
        obtain ⟨A9, c9, ess9, h9, _, _, _, hr9, ha9⟩ := (HO.out.keep (w' := wq) hsz (fun q _ hE => hkb q (by omega)) (fun q hq hE => by have := (HO.out.ownlt hq).1; omega)).read
        injection h9 with h9 _
        rw [HLK.out] at h9 hr9
        injection h9 with e1 _ e3
        subst e1 e3
        have hin : ∀ f ∈ L, ∃ f0 ∈ K.funcs, SqzF f0 f := fun f hf => by
          obtain ⟨j, hj, he⟩ := List.mem_iff_getElem.1 hf
          have hjk : j < K.funcs.length := by rw [← HNF.out, ← HLK.out]; exact hj
          exact ⟨K.funcs[j], List.getElem_mem hjk, HSL.out.2 j _ f (List.getElem?_eq_getElem hjk) (by rw [List.getElem?_eq_getElem hj, he])⟩
        refine ⟨⟨L, K.texts⟩, A0, c0, TA2, tc2, ⟨rfl, by show L.length = _; rw [HLK.out, HNF.out], HSL.out⟩, by rw [← HNT.out]; show _ = Ending.returned (.tuple #[.agg #[.slice A0 L.length c0, _], _]); rw [HLK.out], fun j f hf => KK.fn hr9 ha9 HLK.out.symm hf, ?_, HK.out.big, fun f hm => ?_, by show L.length ≤ _; rw [HLK.out]; omega, HK.out.tl, fun f hm => ?_⟩
        · rw [← HNT.out]
          exact ((HTX.out.keep (fun p hp => HBE.out.cell hp.2)).keep (w' := wq) (fun p hp => World.cell?_of_block (hkb p.block (by have := hp.1; omega)))).rd (fun b hb => by omega)
        · obtain ⟨f0, h0, h1⟩ := hin f hm
          rw [h1.1]
          exact HK.out.nms f0 h0
        · obtain ⟨f0, h0, h1⟩ := hin f hm
          exact Nat.le_trans h1.2.2.2.2.len (HK.out.il f0 h0)
  · have b0 : (s0 != 0) = true := by simpa using h0
    have HPN := Lib.hid (HP0.out h0)
    clear h0 HP0 HP1 HSN
    go_enter Try.func27, Try.ntmps27
    go_wp2_with fail
    refine (HSD.out _ (sq (al _) (al _))).mono ?_
    rintro e w1 ⟨rfl, hb1⟩
    have hbc := (hb1.block w.heap.size (by simp; omega)).trans ((Lib.alloc_old _ _ _ (by simp)).trans (heap_alloc_new w _))
    have hbr := (hb1.block (w.heap.size + 1) (by simp)).trans (heap_at (w := w.alloc (.cells #[.slice FA nf fc, .slice TA nt tc] 71)) (.cells #[.slice none 0 0, .slice none 0 0] 71) (by simp))
    have hz1 : w.heap.size + 1 < w1.heap.size := (Array.getElem?_eq_some_iff.1 hbr).1
    have HB1 := Lib.hid (sq (sq (al _) (al _)) hb1)
    have r0 : w1.cell? ⟨w.heap.size + 1, 0, none⟩ = some (.slice none 0 0) := by rw [Lib.cell_of_heap hbr]; rfl
    have r1 : w1.cell? ⟨w.heap.size + 1, 1, none⟩ = some (.slice none 0 0) := by rw [Lib.cell_of_heap hbr]; rfl
    have hbr' := hbr
    clear hb1 HSD hbc hbr
    go_wp2_with fail
    have k0 := (World.cell?_alloc_lt w1 (.cells #[.int .i64 s0, .int .i64 s1, .int .i64 s2] 118) ⟨w.heap.size + 1, 0, none⟩ hz1).trans r0
    have k1 := (World.cell?_alloc_lt w1 (.cells #[.int .i64 s0, .int .i64 s1, .int .i64 s2] 118) ⟨w.heap.size + 1, 1, none⟩ hz1).trans r1
    have kf := Lib.frozen_of_heap (((al (.cells #[.int .i64 s0, .int .i64 s1, .int .i64 s2] 118)).block (w.heap.size + 1) hz1).trans hbr')
    have q0 : (w1.alloc (.cells #[.int .i64 s0, .int .i64 s1, .int .i64 s2] 118)).cell? ⟨w1.heap.size, 0, none⟩ = some (.int .i64 s0) := by simp [go_sem]
    have f0 := kf 0
    have f1 := kf 1
    have HBW := Lib.hid (HB1.out.trans ((al (.cells #[.int .i64 s0, .int .i64 s1, .int .i64 s2] 118)).mono (by omega)))
    generalize w1.alloc (.cells #[.int .i64 s0, .int .i64 s1, .int .i64 s2] 118) = wf at *
    clear r0 r1
    go_region_law (fail)
    all_goals (
      go_wp2_with fail
      refine bodyPost_ret (v := .tuple #[.agg #[.slice none 0 0, .slice none 0 0], .int .i64 s0]) (by simp [results, Try.results27, go_sem, k0, k1]) rfl (HPN.out _ ?_)
      first
        | exact ((HBW.out.setCell (p := ⟨w.heap.size + 1, 0, none⟩) (Nat.le_succ _) _).setCell (p := ⟨w.heap.size + 1, 1, none⟩) (Nat.le_succ _) _).drew
        | exact ((HBW.out.drew.setCell (p := ⟨w.heap.size + 1, 0, none⟩) (Nat.le_succ _) _).setCell (p := ⟨w.heap.size + 1, 1, none⟩) (Nat.le_succ _) _))
end Go.Proofs.Ytapbdfcihheecaa
