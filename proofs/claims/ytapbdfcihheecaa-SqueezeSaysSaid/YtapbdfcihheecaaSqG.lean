/- A copy of a list of strings; 'squeeze.Squeeze'. Conditions: the code fits what comes in. -/
import Derived.Test.YtapbdfcihheecaaSqF
import Derived.Test.YtapbdfcihheecaaSqS
set_option maxRecDepth 100000
namespace Go.Proofs.Ytapbdfcihheecaa
open Go.ChangeShapes Go.WideShapes Go.ChangeAt Go.RowKit
theorem strClone_any (A : Option Addr) (n c : Nat) (T : List ByteArray) (w : World) (h : Rd w w.heap.size 1 A n (T.map Value.string)) (hT : n = T.length) (hn : n ≤ 1000000) :
    Calls Try.prog 61 #[.slice A n c] w fun e w' => ∃ A' c', e = .returned (.slice A' n c') ∧ w'.ownsRow w.heap.size 9 1 (.slice A' n c') n (T.map Value.string) ∧ Below w.heap.size w w' := by
  obtain ⟨s0, hs, sz0, sz1, sz2⟩ := info_parts info_str
  rcases A with _ | ad
  · have h0 : n = 0 := by
      rcases Nat.eq_zero_or_pos n with h0 | h0
      · exact h0
      · have := h.2 h0; obtain ⟨b, off, e, _⟩ := this; cases e
    subst h0
    obtain rfl : T = [] := List.eq_nil_of_length_eq_zero hT.symm
    have heq : ∀ W, (binOp .eql 69 (.slice none 0 c) (.slice none 0 0)).run Try.prog W = .ok (.bool true) W := fun W => run_eql_slice_nil W _ _ _ _ _ Try.underlying69
    clear h hT hn
    go_enter Try.func61, Try.ntmps61
    go_wp2_with fail
    go_ret
    exact ⟨none, 0, rfl, World.ownsRow_nil _ _ _ _, Below.refl _ _⟩
  · have HR := Lib.hid h
    clear h hT
    have heq : ∀ W, (binOp .eql 69 (.slice (some ad) n c) (.slice none 0 0)).run Try.prog W = .ok (.bool false) W := fun W => run_eql_slice_nil W _ _ _ _ _ Try.underlying69
    go_enter Try.func61, Try.ntmps61
    have hown0 : (w.alloc (.cells #[] 9)).ownsRow w.heap.size 9 1 (.slice (some ⟨w.heap.size, 0, none⟩) 0 0) 0 [] := ⟨rfl, .inr ⟨w.heap.size, 0, #[], rfl, Nat.le_refl _, heap_alloc_new w _, Nat.le_refl _, by unfold maxLen; omega, rfl, rfl⟩⟩
    go_wp2_with (at_builtin; refine wpList_append_rd _ rfl _ _ 69 rfl w.heap.size 9 s0 _ 1 16 Try.underlying69 hs sz0 sz1 sz2 rfl (by omega) (.slice (some ⟨w.heap.size, 0, none⟩) 0 0) 0 [] rfl hown0 w.heap.size (some ad) n c (T.map Value.string) rfl (HR.out.alloc (Nat.le_refl _) _) (strs_oneCell _) (by unfold maxLen; omega) (by omega) (by simp) ?_; intro A' c' w' hown hgrow _)
    go_ret
    rw [Nat.zero_add, List.nil_append] at hown
    exact ⟨A', c', rfl, hown, (al _).grown hgrow (by simp) fun q hq => by injection hq with hq; show w.heap.size ≤ q; rw [← hq]; exact Nat.le_refl _⟩
theorem InsR.uniq {w : World} {B n : Nat} {A : Option Addr} {l l' : List II} (h : InsR w B A n l) (h' : InsR w B A n l') : l = l' := by
  have hl := h.1
  have hl' := h'.1
  apply List.ext_getElem?
  intro j
  by_cases hj : j < n
  · obtain ⟨x, hx⟩ : ∃ x, l[j]? = some x := ⟨_, List.getElem?_eq_getElem (by omega)⟩
    obtain ⟨y, hy⟩ : ∃ x, l'[j]? = some x := ⟨_, List.getElem?_eq_getElem (by omega)⟩
    obtain ⟨b, off, e, _, e0, e1, e2, e3, e4, e5⟩ := h.at hx
    obtain ⟨b', off', e', _, f0, f1, f2, f3, f4, f5⟩ := h'.at hy
    rw [e] at e'
    injection e' with e'
    injection e' with e1' e2'
    subst e1' e2'
    rw [e0] at f0; rw [e1] at f1; rw [e2] at f2; rw [e3] at f3; rw [e4] at f4; rw [e5] at f5
    injection f0 with f0; injection f1 with f1; injection f2 with f2; injection f3 with f3; injection f4 with f4; injection f5 with f5
    injection f0 with _ f0; injection f1 with _ f1; injection f2 with _ f2; injection f3 with _ f3; injection f4 with _ f4; injection f5 with _ f5
    rw [hx, hy, ii_ext f0 f1 f2 f3 f4 f5]
  · rw [List.getElem?_eq_none (by omega), List.getElem?_eq_none (by omega)]
open Classical in
/-- How many rounds may be to come. -/
noncomputable def insMu (v : Value) (w : World) : Nat := if h : ∃ l A n c, v = .slice A n c ∧ InsR w w.heap.size A n l then roundsM (Classical.choose h) else 0
theorem insMu_of {w : World} {n c : Nat} {A : Option Addr} {l : List II} (h : InsR w w.heap.size A n l) : insMu (.slice A n c) w = roundsM l := by
  unfold insMu
  have hx : ∃ l A' n' c', Value.slice A n c = .slice A' n' c' ∧ InsR w w.heap.size A' n' l := ⟨l, A, n, c, rfl, h⟩
  rw [dif_pos hx]
  obtain ⟨A', n', c', e, h1⟩ := Classical.choose_spec hx
  injection e with e1 e2 e3
  subst e1 e2 e3
  rw [h1.uniq h]
/-- The answer: the code, squeezed, or the error. -/
def SqzPost (K : KK) (w : World) (e : Ending) (w' : World) : Prop :=
  ((¬ (soundV K).1 = 0 ∧ e = .returned (.tuple #[.agg #[.slice none 0 0, .slice none 0 0], .int .i64 (soundV K).1])) ∨
    ((soundV K).1 = 0 ∧ ∃ J FA fc TA tc, SqzK K J ∧ e = .returned (.tuple #[.agg #[.slice FA J.funcs.length fc, .slice TA J.texts.length tc], .int .i64 0]) ∧ KR w' w'.heap.size FA TA J)) ∧ Below w.heap.size w w'
theorem SqzPost.no {K : KK} {w w' : World} (h : ¬ (soundV K).1 = 0) (hb : Below w.heap.size w w') : SqzPost K w (.returned (.tuple #[.agg #[.slice none 0 0, .slice none 0 0], .int .i64 (soundV K).1])) w' := ⟨.inl ⟨h, rfl⟩, hb⟩
set_option maxHeartbeats 4000000 in
theorem squeeze_any (K : KK) (FA TA : Option Addr) (fc tc nf nt : Nat) (w : World) (hnf : nf = K.funcs.length) (hnt : nt = K.texts.length) (hk : KR w w.heap.size FA TA K) :
    Calls Try.prog 25 #[.agg #[.slice FA nf fc, .slice TA nt tc]] w (SqzPost K w) := by
  obtain ⟨j0, hj, jz0, jz1, jz2⟩ := info_parts info_fn
  have HNF := Lib.hid hnf
  have HNT := Lib.hid hnt
  have HK := Lib.hid hk
  have HSD := Lib.hid (fun W (hW : Below w.heap.size w W) => codeSound_any FA TA fc tc K nf nt W HNF.out HNT.out ((HK.out.into hW).more hW.size))
  have HSN := Lib.hid (fun h => Snd.of (K := K) h)
  have HP0 := Lib.hid (fun h w' => @SqzPost.no K w w' h)
  have HP1 := Lib.hid (show ∀ e w', (soundV K).1 = 0 → (∃ J FA fc TA tc, SqzK K J ∧ e = .returned (.tuple #[.agg #[.slice FA J.funcs.length fc, .slice TA J.texts.length tc], .int .i64 0]) ∧ KR w' w'.heap.size FA TA J) → Below w.heap.size w w' → SqzPost K w e w' from fun e w' h h1 hb => ⟨.inr ⟨h, h1⟩, hb⟩)
  clear hnf hnt hk
  generalize soundV K = sv at *
  obtain ⟨s0, s1, s2⟩ := sv
  unfold fixV at HSD
  simp only at HSD HSN HP0 HP1
  by_cases h0 : s0 = 0
  · have b0 : (s0 != 0) = false := by simpa using h0
    have H0 := Lib.hid h0
    have HS := Lib.hid (HSN.out h0)
    have hnf4 : nf ≤ 400 := by have := HNF.out; have := HS.out.nf; omega
    have hnt2 : nt ≤ 2000 := by have := HNT.out; have := HS.out.nt; omega
    clear h0 HSN HP0
    go_enter Try.func25, Try.ntmps25
    go_wp2_with fail
    refine (HSD.out _ (sq (al _) (al _))).mono ?_
    rintro e w1 ⟨rfl, hb1⟩
    have hbc := (hb1.block w.heap.size (by simp; omega)).trans ((Lib.alloc_old _ _ _ (by simp)).trans (heap_alloc_new w _))
    have hbr := (hb1.block (w.heap.size + 1) (by simp)).trans (heap_at (w := w.alloc (.cells #[.slice FA nf fc, .slice TA nt tc] 71)) (.cells #[.slice none 0 0, .slice none 0 0] 71) (by simp))
    have HB1 := Lib.hid (sq (sq (al _) (al _)) hb1)
    have hz1 : w.heap.size + 1 < w1.heap.size := (Array.getElem?_eq_some_iff.1 hbr).1
    have c1 : w1.cell? ⟨w.heap.size, 1, none⟩ = some (.slice TA nt tc) := by rw [Lib.cell_of_heap hbc]; rfl
    have HBC := Lib.hid hbc
    have HBR := Lib.hid hbr
    have hcx : (w1.alloc (.cells #[.int .i64 s0, .int .i64 s1, .int .i64 s2] 118)).cell? ⟨w.heap.size, 1, none⟩ = some (.slice TA nt tc) := (World.cell?_alloc_lt _ _ _ (by show w.heap.size < _; omega)).trans c1
    clear hb1 HSD hbc hbr
    go_wp2_with fail
    clear hcx
    generalize hwf : w1.alloc (.cells #[.int .i64 s0, .int .i64 s1, .int .i64 s2] 118) = wf at *
    have hwz : w1.heap.size < wf.heap.size := by rw [← hwf]; simp
    have HBF := Lib.hid (show Below w.heap.size w wf from sq HB1.out (hwf ▸ al _))
    have HBCF := Lib.hid (show wf.heap[w.heap.size]? = some (.cells #[.slice FA nf fc, .slice TA nt tc] 71 (0, 0)) by rw [← hwf, Lib.alloc_old _ _ _ (by omega)]; exact HBC.out)
    have HBRF := Lib.hid (show wf.heap[w.heap.size + 1]? = some (.cells #[.slice none 0 0, .slice none 0 0] 71 (0, 0)) by rw [← hwf, Lib.alloc_old _ _ _ (by omega)]; exact HBR.out)
    clear hwf HB1 HBC HBR c1
    refine Calls.mono (strClone_any TA nt tc K.texts wf (by rw [HNT.out]; exact ((HK.out.into HBF.out).more HBF.out.size).tx) HNT.out (by omega)) ?_
    rintro e w2 ⟨TA2, tc2, rfl, hown2, hb2⟩
    have hz2 : wf.heap.size ≤ w2.heap.size := hb2.size
    have HBCF2 := Lib.hid (show w2.heap[w.heap.size]? = some (.cells #[.slice FA nf fc, .slice TA nt tc] 71 (0, 0)) from (hb2.block _ (by omega)).trans HBCF.out)
    have HBRF2 := Lib.hid (show w2.heap[w.heap.size + 1]? = some (.cells #[.slice none 0 0, .slice none 0 0] 71 (0, 0)) from (hb2.block _ (by omega)).trans HBRF.out)
    have HB2 := Lib.hid (sq HBF.out hb2)
    have HDD := Lib.hid (show DD (.slice none 0 0) TA2 nt tc2 w2.heap.size (w2.alloc (.cells #[.slice none 0 0, .slice TA2 nt tc2] 71)) from ⟨by simp, by simp [go_sem], by simp [go_sem], by simp [go_sem]⟩)
    have HTX := Lib.hid ((RdM.of_own hown2).more (M' := fun b => w.heap.size + 1 < b ∧ b < w2.heap.size) (fun b h => by have := h.1; exact ⟨by omega, h.2⟩))
    have c0 : (w2.alloc (.cells #[.slice none 0 0, .slice TA2 nt tc2] 71)).cell? ⟨w.heap.size, 0, none⟩ = some (.slice FA nf fc) := (World.cell?_alloc_lt _ _ _ (by show w.heap.size < _; omega)).trans (by rw [Lib.cell_of_heap HBCF2.out]; rfl)
    clear hown2 hb2 HBCF HBRF
    go_wp2_with fail
    clear c0
    have HDX := Lib.hid (show DX FA TA nf nt fc tc w.heap.size w2 from ⟨by omega,
      by rw [Lib.cell_of_heap HBCF2.out]; rfl, by rw [Lib.cell_of_heap HBCF2.out]; rfl, by rw [Lib.cell_of_heap HBRF2.out]; rfl, by rw [Lib.cell_of_heap HBRF2.out]; rfl, Lib.frozen_of_heap HBRF2.out 0, Lib.frozen_of_heap HBRF2.out 1⟩)
    clear HBCF2 HBRF2
    go_loopw [25] (fun i wr => ∃ (k : Nat) (v : Value) (L : List FF), k ≤ nf ∧ i = .int .i64 (k : Int) ∧ L.length = k ∧ SqzL K.funcs L ∧ Own FF.sh 123 wr (w2.heap.size + 1) (· < w2.heap.size + 1) v L ∧ DD v TA2 nt tc2 w2.heap.size wr ∧ Below w2.heap.size w2 wr) (fun i _ => nf - (intOf i).toNat)
    case atStart => exact ⟨0, .slice none 0 0, [], Nat.zero_le _, rfl, rfl, SqzL.nil _, Own.nil, HDD.out, al _⟩
    case round =>
      obtain ⟨k, v, L, hk, rfl, hLk, hSL, hown, hdd, hbel⟩ := hrel
      generalize wr = wo at *
      have HSL := Lib.hid hSL
      have HLK := Lib.hid hLk
      have HDXR := Lib.hid (HDX.out.into hbel (by omega))
      have HBE := Lib.hid hbel
      have HO := Lib.hid hown
      have HDR := Lib.hid hdd
      have HBW := Lib.hid (show Below w.heap.size w wo from HB2.out.trans (hbel.mono HB2.out.size))
      have HGR := Lib.hid (show w2.heap.size + 1 ≤ wo.heap.size from hdd.z)
      obtain ⟨A0, c0, hv⟩ := hown.form
      rw [hLk] at hv
      subst hv
      clear hown hdd hbel hLk hSL
      obtain ⟨zr, p0, p1, r0, r1, z0, z1⟩ := HDXR.out
      obtain ⟨zd, d0, d1, f0⟩ := HDR.out
      by_cases hlt : k < nf
      · obtain ⟨x, hx⟩ : ∃ x, K.funcs[k]? = some x := ⟨_, List.getElem?_eq_getElem (by have := HNF.out; omega)⟩
        obtain ⟨⟨b, off, A4, c4, rfl, hb, e0, e1, e2, e3, e4, hc4, hm4, es, r4, a4⟩, q1, q2, q3⟩ := (HK.out.fn k x hx).into HBW.out
        have HG := Lib.hid (HS.out.gd hx)
        have HX := Lib.hid hx
        have HIR := Lib.hid (show InsR wo w.heap.size A4 x.ins.length x.ins from ⟨rfl, es, r4, a4⟩)
        have HQ1 := Lib.hid q1
        have HQ2 := Lib.hid q2
        have HQ3 := Lib.hid q3
        have hlti : (k : Int) < (nf : Int) := by omega
        have hzw : w.heap.size < wo.heap.size := by omega
        have hbr : b < wo.heap.size := by omega
        clear hx r4 a4 q1 q2 q3
        generalize hn : x.ins.length = n at *
        have HN := Lib.hid hn
        have hn2 : n ≤ 20000 := HG.out.2
        clear hn
        go_wp2_with fail
        have hbx := heap_alloc_new wo (.cells #[.string x.name, .int .i64 x.params, .int .i64 x.slots, .int .i64 x.caps, .slice A4 n c4] 123)
        generalize hwa : wo.alloc (.cells #[.string x.name, .int .i64 x.params, .int .i64 x.slots, .int .i64 x.caps, .slice A4 n c4] 123) = wa at *
        have hwz4 : wa.heap.size = wo.heap.size + 1 := by rw [← hwa]; simp
        have HBA := Lib.hid (show Below wo.heap.size wo wa from hwa ▸ al _)
        have HBX := Lib.hid hbx
        clear hwa hbx
        refine Calls.mono (insClone_any A4 n c4 x.ins wa (((HIR.out.below (HBA.out.mono (by omega))).more (by omega))) (by omega)) ?_
        rintro e w4 ⟨A5, c5, rfl, hown5, hb5⟩
        have HI5 := Lib.hid (InsM.of_own hown5)
        have HC5 := Lib.hid hown5.capR
        have HB5 := Lib.hid hb5
        clear hown5 hb5
        go_wp2_with fail
        go_loopw [8] (fun v wz => ∃ (l : List II) (A : Option Addr) (m c : Nat), v = .slice A m c ∧ InsM wz (fun b => wa.heap.size ≤ b ∧ b < wz.heap.size) A m l ∧ CapR A m c ∧ Gd l ∧ m ≤ 20000 ∧ Hid (∀ y, Sqz l y → Sqz x.ins y) ∧ Below wa.heap.size wa wz) (fun v wz => insMu v wz)
        case atStart => exact ⟨x.ins, A5, n, c5, rfl, HI5.out, HC5.out, HG.out.1, hn2, Lib.hid (fun _ h => h), HB5.out⟩
        case round =>
          obtain ⟨l, A, m, c, rfl, him, hcap, hgd, hm, HSQ, hbz⟩ := hrel
          have HIM := Lib.hid him
          have HCP := Lib.hid hcap
          have HGD := Lib.hid hgd
          have HBZ := Lib.hid hbz
          have HZ1 := Lib.hid hbz.size
          clear him hcap hgd hbz
          go_wp2_with fail
          refine Calls.mono (once_any A m c l wr (HIM.out.r fun b h => h.2) HGD.out (by omega)) ?_
          rintro e w6 ⟨A6, m6, c6, rfl, h6, hc6, hb6⟩
          have hm6 : m6 ≤ 20000 := by
            have h1 := once_len l
            have h2 := HIM.out.1
            have h3 := h6.1
            omega
          have HI6 := Lib.hid (h6.more (M' := fun b => wa.heap.size ≤ b ∧ b < w6.heap.size) fun b h => ⟨Nat.le_trans HZ1.out h.1, h.2⟩)
          have HIL := Lib.hid ((HIM.out.keep fun p hp => hb6.cell hp.2).more (M' := fun b => wa.heap.size ≤ b ∧ b < w6.heap.size) fun b h => ⟨h.1, Nat.lt_of_lt_of_le h.2 hb6.size⟩)
          have HB6 := Lib.hid (HBZ.out.trans (hb6.mono HZ1.out))
          have HC6 := Lib.hid hc6
          clear h6 hc6 hb6
          go_wp2_with fail
          refine Calls.mono (insEqual_any A A6 m m6 c c6 l (onceV l) w6 (HIL.out.r fun b h => h.2) (HI6.out.r fun b h => h.2) (by omega)) ?_
          rintro e w7 ⟨⟨bq, rfl, hbq⟩, mm, hw7⟩
          have HB7 := Lib.hid (show Below wa.heap.size wa w7 from hw7 ▸ dr HB6.out mm)
          have hk7 : ∀ p : Addr, w7.cell? p = w6.cell? p := fun p => by rw [hw7]; rfl
          have hs7 : w7.heap.size = w6.heap.size := by rw [hw7]; rfl
          cases bq with
          | false =>
            have hne : onceV l ≠ l := fun h => by have := hbq.2 h.symm; cases this
            have HSN := Lib.hid (fun y (h : Sqz (onceV l) y) => HSQ.out y (.step hne h))
            have HMU := Lib.hid (once_less HGD.out hne)
            have HI7 := Lib.hid (show InsM w7 (fun b => wa.heap.size ≤ b ∧ b < w7.heap.size) A6 m6 (onceV l) from by rw [hs7]; exact HI6.out.keep fun p _ => hk7 p)
            have HMA := Lib.hid (insMu_of (c := c) (HIM.out.r fun b h => h.2))
            clear hne hbq hw7 hk7 hs7
            go_wp2_with fail
            go_roundw
            case rel => exact ⟨onceV l, A6, m6, c6, rfl, HI7.out, HC6.out, HGD.out.once, hm6, HSN, HB7.out⟩
            case measure =>
              rw [HMA.out, insMu_of (HI7.out.r fun b h => h.2)]
              exact HMU.out
          | true =>
            obtain rfl : m = l.length := HIM.out.1
            have HEQ := Lib.hid (show onceV l = l from (hbq.1 rfl).symm)
            have HSZ := Lib.hid (HSQ.out l (.done HEQ.out))
            have HI7 := Lib.hid (show InsM w7 (fun b => wa.heap.size ≤ b ∧ b < w7.heap.size) A l.length l from by rw [hs7]; exact HIL.out.keep fun p _ => hk7 p)
            have hbx7 := (HB7.out.block wo.heap.size (by omega)).trans HBX.out
            have z7 : wo.heap.size < w7.heap.size := (Array.getElem?_eq_some_iff.1 hbx7).1
            have g0 : w7.cell? ⟨wo.heap.size, 0, none⟩ = some (.string x.name) := by rw [Lib.cell_of_heap hbx7]; rfl
            have g1 : w7.cell? ⟨wo.heap.size, 1, none⟩ = some (.int .i64 x.params) := by rw [Lib.cell_of_heap hbx7]; rfl
            have g2 : w7.cell? ⟨wo.heap.size, 2, none⟩ = some (.int .i64 x.slots) := by rw [Lib.cell_of_heap hbx7]; rfl
            have g3 : w7.cell? ⟨wo.heap.size, 3, none⟩ = some (.int .i64 x.caps) := by rw [Lib.cell_of_heap hbx7]; rfl
            have g4 : w7.cell? ⟨wo.heap.size, 4, none⟩ = some (.slice A4 n c4) := by rw [Lib.cell_of_heap hbx7]; rfl
            have gf := Lib.frozen_of_heap hbx7 4
            have HBO := Lib.hid (show Below wo.heap.size wo w7 from HBA.out.trans (HB7.out.mono (by omega)))
            have o0 : w7.cell? ⟨w2.heap.size, 0, none⟩ = some (.slice A0 k c0) := (HBO.out.cell (p := ⟨w2.heap.size, 0, none⟩) zd).trans d0
            have of : w7.frozen? ⟨w2.heap.size, 0, none⟩ = false := (HBO.out.frozen (p := ⟨w2.heap.size, 0, none⟩) zd).trans f0
            clear hbq hw7 hk7 hs7 hbx7
            have HW8 := Lib.hid (show Below wo.heap.size wo ((w7.setCell ⟨wo.heap.size, 4, none⟩ (.slice A l.length c)).alloc (.cells #[.string x.name, .int .i64 x.params, .int .i64 x.slots, .int .i64 x.caps, .slice A l.length c] 123)) from (HBO.out.setCell (Nat.le_refl _) _).alloc (by simp; omega) _)
            have HFI := Lib.hid (HO.out.fresh HW8.out (by
              obtain ⟨_, ess, hr, ha⟩ := (HI7.out.keep (w' := (w7.setCell ⟨wo.heap.size, 4, none⟩ (.slice A l.length c)).alloc (.cells #[.string x.name, .int .i64 x.params, .int .i64 x.slots, .int .i64 x.caps, .slice A l.length c] 123)) (fun p hp => (World.cell?_alloc_lt _ _ _ (by simpa using hp.2)).trans (World.cell?_of_block (Below.heap_setCell _ _ _ _ (by have := hp.1; show p.block ≠ wo.heap.size; omega))))).more (M' := fun b => wo.heap.size ≤ b ∧ b < ((w7.setCell ⟨wo.heap.size, 4, none⟩ (.slice A l.length c)).alloc (.cells #[.string x.name, .int .i64 x.params, .int .i64 x.slots, .int .i64 x.caps, .slice A l.length c] 123)).heap.size) (fun b h => ⟨by have := h.1; omega, by have := h.2; simp; omega⟩)
              exact FF.intro (v := ⟨x.name, x.params, x.slots, x.caps, l⟩) HQ1.out HQ2.out HQ3.out hr ha HCP.out) (fun _ h => Nat.lt_of_lt_of_le h HGR.out))
            go_wp2_with (first
              | (at_builtin; refine wpList_append_Own (S := FF.sh) rfl _ _ 68 rfl (w2.heap.size + 1) 123 j0 _ 64 Try.underlying68 hj jz0 jz1 jz2 rfl (by show 0 < 5; omega) (· < w2.heap.size + 1) _ _ rfl HFI.out.1 _ _ 1 1 _ _ [(⟨x.name, x.params, x.slots, x.caps, l⟩ : FF)] rfl (Rd.one _ _ _ 5 rfl _ (by simp)) (by simp) rfl HFI.out.2 (by rw [HLK.out]; unfold maxLen; omega) (by rw [HLK.out]; omega) (Nat.le_trans HGR.out HW8.out.size) ?_; intro A9 c9 w9 hown9 hgrow9 _; have HD9 := Lib.hid ((HDR.out.into HW8.out).grown hgrow9 (fun e => by have := (HO.out.ownlt e).1; omega)); obtain ⟨zd9, d09, d19, f09⟩ := HD9.out)
              | fail "no")
            have HBW9 := Lib.hid ((HBE.out.trans (HW8.out.mono HBE.out.size)).grown hgrow9 (by simp; omega) (fun q hq => by have := (HO.out.ownlt hq).1; omega))
            go_roundw
            case rel =>
              rw [HLK.out] at hown9 ⊢
              refine ⟨k + 1, .slice A9 (k + 1) c9, L ++ [⟨x.name, x.params, x.slots, x.caps, l⟩], by omega, by go_num, by simp [HLK.out], HSL.out.snoc (f := x) (by rw [HLK.out]; exact HX.out) ⟨rfl, rfl, rfl, rfl, HSZ.out⟩, ?_, HD9.out.put _, HBW9.out.setCell (Nat.le_refl _) _⟩
              exact hown9.keep (w' := w9.setCell ⟨w2.heap.size, 0, none⟩ (.slice A9 (k + 1) c9)) (by simp) (fun q _ hE => Below.heap_setCell _ _ _ _ (by show q ≠ w2.heap.size; omega)) (fun q hq hE => by have := (hown9.ownlt hq).1; omega)
            case measure => simp [intOf]; omega
      · obtain rfl : k = nf := by omega
        go_wp2_with fail
        have hkb : ∀ q, q ≠ w.heap.size + 1 → ((wo.setCell ⟨w.heap.size + 1, 0, none⟩ (.slice A0 k c0)).setCell ⟨w.heap.size + 1, 1, none⟩ (.slice TA2 nt tc2)).heap[q]? = wo.heap[q]? := fun q hq => by rw [Below.heap_setCell _ _ _ _ hq, Below.heap_setCell _ _ _ _ hq]
        have hbf : Below w.heap.size w ((wo.setCell ⟨w.heap.size + 1, 0, none⟩ (.slice A0 k c0)).setCell ⟨w.heap.size + 1, 1, none⟩ (.slice TA2 nt tc2)) := (HBW.out.setCell (p := ⟨w.heap.size + 1, 0, none⟩) (Nat.le_succ _) _).setCell (p := ⟨w.heap.size + 1, 1, none⟩) (Nat.le_succ _) _
        have hsz : wo.heap.size ≤ ((wo.setCell ⟨w.heap.size + 1, 0, none⟩ (.slice A0 k c0)).setCell ⟨w.heap.size + 1, 1, none⟩ (.slice TA2 nt tc2)).heap.size := by simp
        refine bodyPost_ret (v := .tuple #[.agg #[.slice A0 k c0, .slice TA2 nt tc2], .int .i64 0]) (by simp [results, Try.results25, go_sem, r0, r1]) rfl (HP1.out _ _ H0.out ?_ hbf)
        generalize ((wo.setCell ⟨w.heap.size + 1, 0, none⟩ (.slice A0 k c0)).setCell ⟨w.heap.size + 1, 1, none⟩ (.slice TA2 nt tc2)) = wq at *
        obtain ⟨A9, c9, ess9, h9, _, _, _, hr9, ha9⟩ := (HO.out.keep (w' := wq) hsz (fun q _ hE => hkb q (by omega)) (fun q hq hE => by have := (HO.out.ownlt hq).1; omega)).read
        injection h9 with h9 _
        rw [HLK.out] at h9 hr9
        injection h9 with e1 _ e3
        subst e1 e3
        have hin : ∀ f ∈ L, ∃ f0 ∈ K.funcs, SqzF f0 f := fun f hf => by
          obtain ⟨j, hj, he⟩ := List.mem_iff_getElem.1 hf
          have hjk : j < K.funcs.length := by rw [← HNF.out, ← HLK.out]; exact hj
          exact ⟨K.funcs[j], List.getElem_mem hjk, HSL.out.2 j _ f (List.getElem?_eq_getElem hjk) (by rw [List.getElem?_eq_getElem hj, he])⟩
        refine ⟨⟨L, K.texts⟩, A0, c0, TA2, tc2, ⟨rfl, by show L.length = _; rw [HLK.out, HNF.out], HSL.out⟩, by rw [← HNT.out]; show _ = Ending.returned (.tuple #[.agg #[.slice A0 L.length c0, _], _]); rw [HLK.out], fun j f hf => KK.fn hr9 ha9 HLK.out.symm hf, ?_, HK.out.big, fun f hm => ?_, by show L.length ≤ _; rw [HLK.out]; omega, HK.out.tl, fun f hm => ?_⟩
        · rw [← HNT.out]
          exact ((HTX.out.keep (fun p hp => HBE.out.cell hp.2)).keep (w' := wq) (fun p hp => World.cell?_of_block (hkb p.block (by have := hp.1; omega)))).rd (fun b hb => by omega)
        · obtain ⟨f0, h0, h1⟩ := hin f hm
          rw [h1.1]
          exact HK.out.nms f0 h0
        · obtain ⟨f0, h0, h1⟩ := hin f hm
          exact Nat.le_trans h1.2.2.2.2.len (HK.out.il f0 h0)
  · have b0 : (s0 != 0) = true := by simpa using h0
    have HPN := Lib.hid (HP0.out h0)
    clear h0 HP0 HP1 HSN
    go_enter Try.func25, Try.ntmps25
    go_wp2_with fail
    refine (HSD.out _ (sq (al _) (al _))).mono ?_
    rintro e w1 ⟨rfl, hb1⟩
    have hbc := (hb1.block w.heap.size (by simp; omega)).trans ((Lib.alloc_old _ _ _ (by simp)).trans (heap_alloc_new w _))
    have hbr := (hb1.block (w.heap.size + 1) (by simp)).trans (heap_at (w := w.alloc (.cells #[.slice FA nf fc, .slice TA nt tc] 71)) (.cells #[.slice none 0 0, .slice none 0 0] 71) (by simp))
    have hz1 : w.heap.size + 1 < w1.heap.size := (Array.getElem?_eq_some_iff.1 hbr).1
    have HB1 := Lib.hid (sq (sq (al _) (al _)) hb1)
    have r0 : w1.cell? ⟨w.heap.size + 1, 0, none⟩ = some (.slice none 0 0) := by rw [Lib.cell_of_heap hbr]; rfl
    have r1 : w1.cell? ⟨w.heap.size + 1, 1, none⟩ = some (.slice none 0 0) := by rw [Lib.cell_of_heap hbr]; rfl
    have hbr' := hbr
    clear hb1 HSD hbc hbr
    go_wp2_with fail
    have k0 := (World.cell?_alloc_lt w1 (.cells #[.int .i64 s0, .int .i64 s1, .int .i64 s2] 118) ⟨w.heap.size + 1, 0, none⟩ hz1).trans r0
    have k1 := (World.cell?_alloc_lt w1 (.cells #[.int .i64 s0, .int .i64 s1, .int .i64 s2] 118) ⟨w.heap.size + 1, 1, none⟩ hz1).trans r1
    have kf := Lib.frozen_of_heap (((al (.cells #[.int .i64 s0, .int .i64 s1, .int .i64 s2] 118)).block (w.heap.size + 1) hz1).trans hbr')
    have q0 : (w1.alloc (.cells #[.int .i64 s0, .int .i64 s1, .int .i64 s2] 118)).cell? ⟨w1.heap.size, 0, none⟩ = some (.int .i64 s0) := by simp [go_sem]
    have f0 := kf 0
    have f1 := kf 1
    have HBW := Lib.hid (HB1.out.trans ((al (.cells #[.int .i64 s0, .int .i64 s1, .int .i64 s2] 118)).mono (by omega)))
    generalize w1.alloc (.cells #[.int .i64 s0, .int .i64 s1, .int .i64 s2] 118) = wf at *
    clear r0 r1
    go_region_law (fail)
    all_goals (
      go_wp2_with fail
      refine bodyPost_ret (v := .tuple #[.agg #[.slice none 0 0, .slice none 0 0], .int .i64 s0]) (by simp [results, Try.results25, go_sem, k0, k1]) rfl (HPN.out _ ?_)
      first
        | exact ((HBW.out.setCell (p := ⟨w.heap.size + 1, 0, none⟩) (Nat.le_succ _) _).setCell (p := ⟨w.heap.size + 1, 1, none⟩) (Nat.le_succ _) _).drew
        | exact ((HBW.out.drew.setCell (p := ⟨w.heap.size + 1, 0, none⟩) (Nat.le_succ _) _).setCell (p := ⟨w.heap.size + 1, 1, none⟩) (Nat.le_succ _) _))
end Go.Proofs.Ytapbdfcihheecaa
