/- 'code.Read'. Conditions: the library's own number stands in its cell; the text is at most as long as the bound. -/
import Derived.Test.YtjegfimagjmpdaaGreatDoorCrT
import Derived.Test.YtjegfimagjmpdaaGreatDoorCsP
set_option maxRecDepth 100000
namespace Go.Proofs.YtjegfimagjmpdaaGreatDoor
open Go.ChangeShapes Go.WideShapes Go.ChangeAt Go.RowKit
theorem KR.nil (w : World) (B : Nat) : KR w B none none ⟨[], []⟩ :=
  ⟨fun k f h => by simp at h, ⟨rfl, fun h => by simp at h⟩, fun s h => by simp at h, fun s h => by simp at h, by simp, by simp, fun s h => by simp at h⟩
/-- A code does not lie in a block that holds nothing but slices. -/
theorem KR.avoid {w w' : World} {B g : Nat} {FA TA : Option Addr} {K : KK} (h : KR w B FA TA K) (hS : ∀ o v, w.cell? ⟨g, o, none⟩ = some v → ∃ A n c, v = .slice A n c) (hk : ∀ p : Addr, p.block < B → p.block ≠ g → w'.cell? p = w.cell? p) : KR w' B FA TA K := by
  refine ⟨fun k f hf => ?_, ?_, h.big, h.nms, h.fl, h.tl, h.il⟩
  · obtain ⟨⟨b, off, A, c, e, hlt, h0, h1, h2, h3, h4, hc, hm, ess, r, a⟩, hbd⟩ := h.fn k f hf
    have hb : b ≠ g := fun e => by
      subst e
      obtain ⟨_, _, _, e⟩ := hS _ _ h0
      cases e
    refine ⟨⟨b, off, A, c, e, hlt, (hk ⟨b, _, none⟩ hlt hb).trans h0, (hk ⟨b, _, none⟩ hlt hb).trans h1, (hk ⟨b, _, none⟩ hlt hb).trans h2, (hk ⟨b, _, none⟩ hlt hb).trans h3, (hk ⟨b, _, none⟩ hlt hb).trans h4, hc, hm, ess, ⟨r.1, fun hn => ?_⟩, ⟨a.1, fun i c x hc hx => ?_⟩⟩, hbd⟩
    · obtain ⟨b, off, e, hb, hcell⟩ := r.2 hn
      refine ⟨b, off, e, hb, fun j u hu => (hk ⟨b, _, none⟩ hb (fun e => ?_)).trans (hcell j u hu)⟩
      change b = g at e
      subst e
      have hx := List.getElem?_eq_getElem hn
      have hes := List.getElem?_eq_getElem (l := ess) (i := 0) (by rw [a.1]; exact hn)
      have hr0 := (II.elim (a.2 0 _ _ hes hx)).1
      have h1 : ess.flatten[0]? = some (.int .i64 f.ins[0].o) := by
        have := flat_at (k := 6) (ess := ess) (fun c hc => by
          obtain ⟨i, hi, e⟩ := List.mem_iff_getElem.1 hc
          have := II.elim (a.2 i c (f.ins[i]'(by rw [← a.1]; exact hi)) (by rw [List.getElem?_eq_getElem hi, e]) (List.getElem?_eq_getElem _))
          rw [this.1]
          rfl) 0 0 (by omega)
        rw [hes, hr0] at this
        exact this
      obtain ⟨_, _, _, e⟩ := hS _ _ (hcell 0 _ h1)
      cases e
    · have := II.elim (a.2 i c x hc hx)
      obtain ⟨rfl, q0, q1, q2, q3, q4, q5⟩ := this
      exact II.intro q0 q1 q2 q3 q4 q5
  · refine ⟨h.tx.1, fun hn => ?_⟩
    obtain ⟨b, off, e, hb, hcell⟩ := h.tx.2 hn
    refine ⟨b, off, e, hb, fun j u hu => (hk ⟨b, _, none⟩ hb (fun e => ?_)).trans (hcell j u hu)⟩
    change b = g at e
    subst e
    have h1 : (K.texts.map Value.string)[0]? = some (.string K.texts[0]) := by rw [List.getElem?_map, List.getElem?_eq_getElem hn]; rfl
    obtain ⟨_, _, _, e⟩ := hS _ _ (hcell 0 _ h1)
    cases e
def sLen (v : Value) : Nat := match v with | .string s => s.size | _ => 0
/-- What a reader answers. -/
def RdAns (s : List UInt8) (w : World) (e : Ending) (w' : World) : Prop :=
  ∃ FA fc TA tc K r, e = .returned (.tuple #[.agg #[.slice FA K.funcs.length fc, .slice TA K.texts.length tc], .int .i64 r]) ∧ KR w' w'.heap.size FA TA K ∧ ((readC s = some K ∧ r = 0) ∨ (readC s = none ∧ K = ⟨[], []⟩ ∧ r = 6)) ∧ Below w.heap.size w w'
theorem twoS {w : World} {g : Nat} {A B : Option Addr} {n m c d : Nat} (h : w.heap[g]? = some (.cells #[.slice A n c, .slice B m d] 25 (0, 0))) : ∀ o v, w.cell? ⟨g, o, none⟩ = some v → ∃ A n c, v = .slice A n c := by
  intro o v hv
  rw [Lib.cell_of_heap h] at hv
  match o with
  | 0 => injection hv with hv; exact ⟨_, _, _, hv.symm⟩
  | 1 => injection hv with hv; exact ⟨_, _, _, hv.symm⟩
  | o + 2 => simp at hv
/-- The result's box, written. -/
theorem set2_keep {w : World} {P : Nat} (u v : Value) : ∀ q, q ≠ P → ((w.setCell ⟨P, 0, none⟩ u).setCell ⟨P, 1, none⟩ v).heap[q]? = w.heap[q]? := fun q hq => by rw [Below.heap_setCell _ _ _ _ hq, Below.heap_setCell _ _ _ _ hq]
theorem lt_size {w : World} {g : Nat} {o : Obj} (h : w.heap[g]? = some o) : g < w.heap.size := (Array.getElem?_eq_some_iff.1 h).1
set_option maxHeartbeats 8000000 in
theorem codeRead_any (s : ByteArray) (m : Int) (w : World) (hm : w.cell? ⟨0, 0, none⟩ = some (.int .i64 m)) (hs : s.size ≤ 1048576) (h0 : 0 < w.heap.size) : Calls Tryz.prog 4 #[.string s] w (RdAns s.data.toList w) := by
  have HM := Lib.hid hm
  clear hm
  go_enter Tryz.func4, Tryz.ntmps4
  go_wp2_with fail
  generalize hW : (w.alloc (.cells #[.slice none 0 0, .slice none 0 0] 25)).alloc (.cells #[.slice none 0 0, .slice none 0 0] 25) = W
  have HA := Lib.hid (show W.heap[w.heap.size]? = some (.cells #[.slice none 0 0, .slice none 0 0] 25 (0, 0)) by subst hW; rw [Lib.alloc_old _ _ _ (by simp)]; exact heap_alloc_new w _)
  have HG := Lib.hid (show W.heap[w.heap.size + 1]? = some (.cells #[.slice none 0 0, .slice none 0 0] 25 (0, 0)) by subst hW; exact (by have := heap_alloc_new (w.alloc (.cells #[.slice none 0 0, .slice none 0 0] 25)) (.cells #[.slice none 0 0, .slice none 0 0] 25); simpa using this))
  have HWB := Lib.hid (show Below w.heap.size w W by subst hW; exact sq (al _) (al _))
  have hws : W.heap.size = w.heap.size + 2 := by subst hW; simp
  clear hW
  go_loopw [5] (fun rv wr => ∃ (K : KK) (R : ByteArray), rv = .string R ∧ Hid (readC s.data.toList = chkC s.data.toList (goT opW K (cutG 10 R.data.toList []))) ∧ Hid (CdO (w.heap.size + 1) (w.heap.size + 1) K wr) ∧ Hid (cntK K + R.size ≤ s.size) ∧ R.size ≤ 1048576 ∧ Hid (Below (w.heap.size + 1) W wr)) (fun rv _ => sLen rv)
  case atStart => exact ⟨⟨[], []⟩, s, rfl, Lib.hid rfl, Lib.hid ⟨_, _, _, CdC.start HG.out⟩, Lib.hid (by simp [cntK]), hs, Lib.hid (Below.refl _ _)⟩
  case round =>
    obtain ⟨K, R, rfl, HR, HCO, HCN, hR, HBE⟩ := hrel
    have hlw : w.heap.size + 2 ≤ wr.heap.size := by have := HBE.out.size; omega
    have haw : wr.heap[w.heap.size]? = some (.cells #[.slice none 0 0, .slice none 0 0] 25 (0, 0)) := (HBE.out.block w.heap.size (by omega)).trans HA.out
    have HAW := Lib.hid haw
    have hmw : wr.cell? ⟨0, 0, none⟩ = some (.int .i64 m) := (HBE.out.cell (p := ⟨0, 0, none⟩) (by show 0 < _; omega)).trans ((HWB.out.cell (p := ⟨0, 0, none⟩) h0).trans HM.out)
    have HMW := Lib.hid hmw
    clear hmw
    by_cases he : R.data.toList = []
    · have hte : R.toList.isEmpty = true := by rw [ByteArray.toList_eq, he]; rfl
      have HRK := Lib.hid (show readC s.data.toList = chkC s.data.toList (some K) by rw [HR.out, he]; rfl)
      obtain ⟨FA, fc, TA, tc, ds, hcd⟩ := HCO.out.form
      have HCD := Lib.hid hcd
      have c0 := hcd.c0
      have c1 := hcd.c1
      have HKR := Lib.hid (hcd.kr (by have := HCN.out; omega))
      obtain ⟨nf, hnf⟩ : ∃ n, n = K.funcs.length := ⟨_, rfl⟩
      obtain ⟨nt, hnt⟩ : ∃ n, n = K.texts.length := ⟨_, rfl⟩
      rw [← hnf] at c0
      rw [← hnt] at c1
      have HNF := Lib.hid hnf
      have HNT := Lib.hid hnt
      clear hcd he hnf hnt HR haw
      go_wp2_with fail
      refine Calls.mono (codeShow_any FA TA fc tc K nf nt wr HNF.out HNT.out HKR.out) ?_
      rintro e w2 ⟨rfl, hb2⟩
      have HRC := Lib.hid (show readC s.data.toList = if (soundV K).1 = 0 ∧ showC K = s.data.toList then some K else none from HRK.out)
      have HAX := (hb2.block w.heap.size (by omega)).trans HAW.out
      have HKR2 := Lib.hid ((HKR.out.into hb2).more hb2.size)
      have d0 : w2.cell? ⟨w.heap.size + 1, 0, none⟩ = some (.slice FA nf fc) := (hb2.cell (p := ⟨w.heap.size + 1, 0, none⟩) (show w.heap.size + 1 < wr.heap.size by omega)).trans c0
      have d1 : w2.cell? ⟨w.heap.size + 1, 1, none⟩ = some (.slice TA nt tc) := (hb2.cell (p := ⟨w.heap.size + 1, 1, none⟩) (show w.heap.size + 1 < wr.heap.size by omega)).trans c1
      have r0 : w2.cell? ⟨w.heap.size, 0, none⟩ = some (.slice none 0 0) := by rw [Lib.cell_of_heap HAX]; rfl
      have r1 : w2.cell? ⟨w.heap.size, 1, none⟩ = some (.slice none 0 0) := by rw [Lib.cell_of_heap HAX]; rfl
      have f0 := Lib.frozen_of_heap HAX 0
      have f1 := Lib.frozen_of_heap HAX 1
      have HX := Lib.hid HAX
      have HBB := Lib.hid (HWB.out.trans ((HBE.out.mono (Nat.le_succ _)).trans (hb2.mono (by omega))))
      have hl2 : w.heap.size + 2 ≤ w2.heap.size := by have := hb2.size; omega
      clear hb2 c0 c1 HAX HAW HKR HRK HBE HMW
      generalize (soundV K).1 = sv at *
      by_cases h1 : sv = 0
      · subst h1
        simp only [if_true]
        by_cases h2 : showC K = s.data.toList
        · have hst : (⟨(showC K).toArray⟩ : ByteArray) = s := by rw [h2]
          rw [hst]
          have HRS := Lib.hid (show readC s.data.toList = some K by rw [HRC.out]; exact if_pos ⟨rfl, h2⟩)
          clear HRC h2 hst
          go_wp2_with fail
          refine bodyPost_ret (v := .tuple #[.agg #[.slice FA nf fc, .slice TA nt tc], .int .i64 0]) (by simp [results, Tryz.results4, go_sem, r0, r1]) rfl ⟨FA, fc, TA, tc, K, 0, by rw [HNF.out, HNT.out], ?_, .inl ⟨HRS.out, rfl⟩, (HBB.out.setCell (p := ⟨w.heap.size, 0, none⟩) (Nat.le_refl _) _).setCell (p := ⟨w.heap.size, 1, none⟩) (Nat.le_refl _) _⟩
          exact (HKR2.out.avoid (twoS HX.out) (w' := (w2.setCell ⟨w.heap.size, 0, none⟩ (.slice FA nf fc)).setCell ⟨w.heap.size, 1, none⟩ (.slice TA nt tc)) fun p _ hne => World.cell?_of_block (set2_keep _ _ _ hne)).more (by simp)
        · have HRS := Lib.hid (show readC s.data.toList = none by rw [HRC.out]; exact if_neg fun h => h2 h.2)
          have hbt : ((⟨(showC K).toArray⟩ : ByteArray).toList == s.toList) = false := by
            rw [ba_eq]
            exact decide_eq_false fun e => h2 (by rw [← e])
          generalize (⟨(showC K).toArray⟩ : ByteArray) = bk at *
          clear HRC h2
          go_wp2_with fail
          exact bodyPost_ret (v := .tuple #[.agg #[.slice none 0 0, .slice none 0 0], .int .i64 6]) (by simp [results, Tryz.results4, go_sem, r0, r1]) rfl ⟨none, 0, none, 0, ⟨[], []⟩, 6, rfl, KR.nil _ _, .inr ⟨HRS.out, rfl, rfl⟩, (HBB.out.setCell (p := ⟨w.heap.size, 0, none⟩) (Nat.le_refl _) _).setCell (p := ⟨w.heap.size, 1, none⟩) (Nat.le_refl _) _⟩
      · have HRS := Lib.hid (show readC s.data.toList = none by rw [HRC.out]; exact if_neg fun h => h1 h.1)
        have b0 : (sv != 0) = true := by simpa using h1
        clear HRC
        generalize (⟨(if sv = 0 then showC K else []).toArray⟩ : ByteArray) = bk at *
        clear h1
        go_wp2_with fail
        exact bodyPost_ret (v := .tuple #[.agg #[.slice none 0 0, .slice none 0 0], .int .i64 6]) (by simp [results, Tryz.results4, go_sem, r0, r1]) rfl ⟨none, 0, none, 0, ⟨[], []⟩, 6, rfl, KR.nil _ _, .inr ⟨HRS.out, rfl, rfl⟩, (HBB.out.setCell (p := ⟨w.heap.size, 0, none⟩) (Nat.le_refl _) _).setCell (p := ⟨w.heap.size, 1, none⟩) (Nat.le_refl _) _⟩
    · have hte : R.toList.isEmpty = false := by
        rw [ByteArray.toList_eq]
        cases h : R.data.toList with
        | nil => exact absurd h he
        | cons a t => rfl
      have r0 : wr.cell? ⟨w.heap.size, 0, none⟩ = some (.slice none 0 0) := by rw [Lib.cell_of_heap haw]; rfl
      have r1 : wr.cell? ⟨w.heap.size, 1, none⟩ = some (.slice none 0 0) := by rw [Lib.cell_of_heap haw]; rfl
      have f0 := Lib.frozen_of_heap haw 0
      have f1 := Lib.frozen_of_heap haw 1
      have HBB := Lib.hid (HWB.out.trans (HBE.out.mono (Nat.le_succ _)))
      by_cases hsp : (10 : UInt8) ∈ R.data.toList
      · obtain ⟨A, B, hAB, hA⟩ := List.eq_append_cons_of_mem hsp
        have HRK := Lib.hid (show readC s.data.toList = chkC s.data.toList ((lineC opW true K A).bind fun K' => goT opW K' (cutG 10 B [])) by rw [HR.out, hAB, goT_step hA])
        have hsz : A.length + 1 + B.length = R.size := by
          have h3 : R.data.toList.length = R.size := rfl
          rw [← h3, hAB]
          simp
          omega
        have HCT := Lib.hid (fun W => cutLf_yes R A B hAB hA (by omega) W)
        clear he hsp hAB haw HR
        go_wp2_with fail
        refine (HCT.out _).mono ?_
        rintro e w1 ⟨rfl, nd, rfl⟩
        have HBD := Lib.hid (show Below wr.heap.size wr (wr.drewN nd) from ⟨rfl, rfl, rfl, Nat.le_refl _, fun _ _ => rfl⟩)
        generalize hwd : wr.drewN nd = wd at *
        have hsd : wd.heap.size = wr.heap.size := by rw [← hwd]; rfl
        clear hwd
        obtain ⟨FA, fc, TA, tc, ds, hcd⟩ := HCO.out.form
        have HCD := Lib.hid (show CdO (w.heap.size + 1) (w.heap.size + 1) K wd from ⟨_, _, _, hcd.below HBD.out⟩)
        clear hcd
        go_wp2_with fail
        refine (codeTake_any (w.heap.size + 1) (w.heap.size + 1) K ⟨A.toArray⟩ m wd HCD.out ((HBD.out.cell (p := ⟨0, 0, none⟩) (by show 0 < _; omega)).trans HMW.out) (by show A.length ≤ _; omega) (by have := HCN.out; omega) (by omega) (Nat.le_refl _)).mono ?_
        rintro e w2 ⟨⟨b, rfl, hy, hno⟩, hb2⟩
        have HB2 := Lib.hid (HBE.out.trans ((HBD.out.mono (by omega)).trans hb2))
        have HX := Lib.hid ((hb2.block w.heap.size (by omega)).trans ((HBD.out.block w.heap.size (by omega)).trans HAW.out))
        clear hb2 r0 r1 f0 f1
        cases b with
        | false =>
          have HRS := Lib.hid (show readC s.data.toList = none by rw [HRK.out, hno rfl]; rfl)
          have r0 : w2.cell? ⟨w.heap.size, 0, none⟩ = some (.slice none 0 0) := by rw [Lib.cell_of_heap HX.out]; rfl
          have r1 : w2.cell? ⟨w.heap.size, 1, none⟩ = some (.slice none 0 0) := by rw [Lib.cell_of_heap HX.out]; rfl
          have f0 := Lib.frozen_of_heap HX.out 0
          have f1 := Lib.frozen_of_heap HX.out 1
          clear hy hno
          go_wp2_with fail
          exact bodyPost_ret (v := .tuple #[.agg #[.slice none 0 0, .slice none 0 0], .int .i64 6]) (by simp [results, Tryz.results4, go_sem, r0, r1]) rfl ⟨none, 0, none, 0, ⟨[], []⟩, 6, rfl, KR.nil _ _, .inr ⟨HRS.out, rfl, rfl⟩, ((HWB.out.trans (HB2.out.mono (Nat.le_succ _))).setCell (p := ⟨w.heap.size, 0, none⟩) (Nat.le_refl _) _).setCell (p := ⟨w.heap.size, 1, none⟩) (Nat.le_refl _) _⟩
        | true =>
          obtain ⟨K', hk1, hk2⟩ := hy rfl
          have HK1 := Lib.hid hk1
          have HK2 := Lib.hid hk2
          have HRS := Lib.hid (show readC s.data.toList = chkC s.data.toList (goT opW K' (cutG 10 (⟨B.toArray⟩ : ByteArray).data.toList [])) by rw [HRK.out, hk1]; rfl)
          have HCK := Lib.hid (show cntK K' + (⟨B.toArray⟩ : ByteArray).size ≤ s.size by
            have h1 := cnt_line hk1
            have h2 := HCN.out
            show _ + B.length ≤ _
            omega)
          clear hy hno hk1 hk2
          go_wp2_with fail
          go_roundw
          case rel => exact ⟨K', ⟨B.toArray⟩, rfl, HRS, HK2, HCK, by show B.length ≤ _; omega, HB2⟩
          case measure => show B.length < R.size; omega
      · have HRS := Lib.hid (show readC s.data.toList = none by rw [HR.out, goT_no he hsp]; rfl)
        have HCT := Lib.hid (fun W => cutLf_no R hsp W)
        clear he hsp haw HR
        go_wp2_with fail
        refine (HCT.out _).mono ?_
        rintro e w1 ⟨rfl, nd, rfl⟩
        go_wp2_with fail
        exact bodyPost_ret (v := .tuple #[.agg #[.slice none 0 0, .slice none 0 0], .int .i64 6]) (by simp [results, Tryz.results4, go_sem, r0, r1]) rfl ⟨none, 0, none, 0, ⟨[], []⟩, 6, rfl, KR.nil _ _, .inr ⟨HRS.out, rfl, rfl⟩, ((HBB.out.trans (show Below w.heap.size wr (wr.drewN nd) from ⟨rfl, rfl, rfl, Nat.le_refl _, fun _ _ => rfl⟩)).setCell (p := ⟨w.heap.size, 0, none⟩) (Nat.le_refl _) _).setCell (p := ⟨w.heap.size, 1, none⟩) (Nat.le_refl _) _⟩
end Go.Proofs.YtjegfimagjmpdaaGreatDoor
