/- panics.copied: the row of activations, of which the first k have rows of their own. Conditions: none. -/
import Derived.Test.YtapofohbngkekaaPnN
import Derived.Test.YtapofohbngkekaaPnI
import Derived.Test.YtapofohbngkekaaClone
set_option maxRecDepth 100000
namespace Go.Proofs.Ytapofohbngkekaa
open Go.ChangeShapes Go.WideShapes Go.ChangeAt Go.RowKit
/-- The row of activations, of which the first k have rows of their own. -/
structure FrK (w : World) (base F c : Nat) (l : List FR) (dso : List Value) (k : Nat) (ds : List Value) : Prop where
  row : w.ownsRow base 93 5 (.slice (some ⟨F, 0, none⟩) l.length c) l.length (frL l (ds ++ dso.drop k))
  len : ds.length = k
  leno : dso.length = l.length
  dr : ∀ (i : Nat) (f : FR) (d : Value), l[i]? = some f → ds[i]? = some d → w.ownsRow base 3 1 d f.ds.length (f.ds.map (Value.int .i64))
  dis : ∀ (i j : Nat) (d d' : Value) (b : Nat), ds[i]? = some d → ds[j]? = some d' → d.ownBlock = some b → d'.ownBlock = some b → i = j
theorem FrK.done {w : World} {base F c : Nat} {l : List FR} {dso ds : List Value} (h : FrK w base F c l dso l.length ds) : FrO w base (.slice (some ⟨F, 0, none⟩) l.length c) l ds := by
  refine ⟨?_, h.len, h.dr, h.dis⟩
  have := h.row
  rw [List.drop_eq_nil_of_le (by rw [h.leno]; exact Nat.le_refl _), List.append_nil] at this
  exact this
theorem FrK.step {w W : World} {base F c k m : Nat} {l : List FR} {dso ds : List Value} {f : FR} {d : Value} (h : FrK w base F c l dso k ds) (hb : base ≤ w.heap.size) (hf : l[k]? = some f) (hm : m = f.ds.length) (hW : Below w.heap.size w W)
    (hd : W.ownsRow w.heap.size 3 1 d m (f.ds.map (Value.int .i64))) : FrK (W.setCell ⟨F, k * 5 + 4, none⟩ d) base F c l dso (k + 1) (ds ++ [d]) := by
  subst hm
  have hk := (List.getElem?_eq_some_iff.1 hf).1
  have hrow := own_below h.row hW
  obtain ⟨cur, hF⟩ := own_ty (b := F) hrow rfl
  have hst := (hrow.stored (k * 5 + 4) d).1
  have hl : (ds ++ dso.drop k).length = l.length := by simp [h.len, h.leno]; omega
  have hs : l.set k (dsF f f.ds) = l := by
    have e : dsF f f.ds = f := rfl
    rw [e]
    refine List.ext_getElem? fun i => ?_
    rw [List.getElem?_set]
    split
    · next e => subst e; rw [hf]
    · rfl
  have hv : (ds ++ dso.drop k).set k d = ds ++ [d] ++ dso.drop (k + 1) := by
    rw [List.set_append_right _ _ (by rw [h.len]; exact Nat.le_refl _), h.len, Nat.sub_self, List.drop_eq_getElem_cons (show k < dso.length by rw [h.leno]; exact hk), List.set_cons_zero, List.append_assoc]
    rfl
  rw [frL_set4 (x := f.ds) hf hl, hs, hv] at hst
  refine ⟨hst, by simp [h.len], h.leno, fun i g e hg he => ?_, fun i j e e' b he he' hb1 hb2 => ?_⟩
  · rw [List.getElem?_append] at he
    split at he
    · exact own_setP (own_below (h.dr i g e hg he) hW) hF (by decide)
    · next hi =>
      rw [List.getElem?_singleton] at he
      split at he
      · injection he with he
        subst he
        obtain rfl : i = k := by have := h.len; omega
        rw [hf] at hg
        injection hg with hg
        subst hg
        exact own_setP (own_base hd hb) hF (by decide)
      · cases he
  · have old : ∀ (i : Nat) (e : Value), ds[i]? = some e → e.ownBlock = some b → b < w.heap.size := fun i e he hb1 => by
      have hi := (List.getElem?_eq_some_iff.1 he).1
      obtain ⟨g, hg⟩ : ∃ g, l[i]? = some g := ⟨_, List.getElem?_eq_getElem (by have := h.len; omega)⟩
      exact ((h.dr i g e hg he).lt b hb1).2
    rw [List.getElem?_append] at he he'
    split at he
    · split at he'
      · exact h.dis i j e e' b he he' hb1 hb2
      · rw [List.getElem?_singleton] at he'
        split at he'
        · injection he' with he'
          subst he'
          have h1 := old i e he hb1
          have h2 := (hd.lt b hb2).1
          omega
        · cases he'
    · rw [List.getElem?_singleton] at he
      split at he
      · injection he with he
        subst he
        split at he'
        · have h1 := old j e' he' hb2
          have h2 := (hd.lt b hb1).1
          omega
        · have := h.len
          rw [List.getElem?_singleton] at he'
          split at he'
          · omega
          · cases he'
      · cases he
theorem frL_one {l : List FR} {ds : List Value} (h : ∀ (i : Nat) (d : Value), ds[i]? = some d → d.oneCell' = true) : ∀ u ∈ frL l ds, u.oneCell' = true := by
  intro u hu
  unfold frL at hu
  obtain ⟨c, hc, hu⟩ := List.mem_flatten.1 hu
  obtain ⟨i, hi⟩ := List.mem_iff_getElem?.1 hc
  rw [List.getElem?_zipWith] at hi
  cases h1 : l[i]? <;> cases h2 : ds[i]? <;> simp [h1, h2] at hi
  subst hi
  simp [frC] at hu
  rcases hu with rfl | rfl | rfl | rfl | rfl
  all_goals first | rfl | exact h i _ h2
/-- The first loop's world: the state's box at g, the result's behind it. -/
structure CQ (w wr : World) (g F c : Nat) (pv : Value) (s : ST) (dso : List Value) (k : Nat) (ds : List Value) : Prop where
  hs : wr.heap[g]? = some (.cells #[.slice (some ⟨F, 0, none⟩) s.fr.length c, pv, .int .i64 (s.next : Int), .int .i64 (s.ser : Int), .int .i64 s.en, .int .i64 s.st] 56 (0, 0))
  hr : wr.heap[g + 1]? = some (.cells #[.slice none 0 0, .slice none 0 0, .int .i64 0, .int .i64 0, .int .i64 0, .int .i64 0] 56 (0, 0))
  fk : FrK wr (g + 2) F c s.fr dso k ds
  bel : Below g w wr
theorem CQ.step {w wr W : World} {g F c k m : Nat} {pv : Value} {s : ST} {dso ds : List Value} {f : FR} {d : Value} (h : CQ w wr g F c pv s dso k ds) (hF : g + 2 ≤ F) (hf : s.fr[k]? = some f) (hm : f.ds.length = m) (hW : Below wr.heap.size wr W)
    (hd : W.ownsRow wr.heap.size 3 1 d m (f.ds.map (Value.int .i64))) : CQ w (W.setCell ⟨F, k * 5 + 4, none⟩ d) g F c pv s dso (k + 1) (ds ++ [d]) := by
  have hFz := (h.fk.row.lt F rfl).2
  exact ⟨(sc_keep (by omega)).trans ((hW.block g (by omega)).trans h.hs), (sc_keep (by omega)).trans ((hW.block (g + 1) (by omega)).trans h.hr), h.fk.step (by omega) hf hm.symm hW hd, (h.bel.trans (hW.mono (by omega))).setCell (p := ⟨F, k * 5 + 4, none⟩) (by show g ≤ F; omega) d⟩
/-- The second loop's world. -/
structure CR (w wr : World) (g F c : Nat) (pv : Value) (np : Nat) (s : ST) (ds : List Value) : Prop where
  hs : wr.heap[g]? = some (.cells #[.slice (some ⟨F, 0, none⟩) s.fr.length c, pv, .int .i64 (s.next : Int), .int .i64 (s.ser : Int), .int .i64 s.en, .int .i64 s.st] 56 (0, 0))
  hr : wr.heap[g + 1]? = some (.cells #[.slice none 0 0, .slice none 0 0, .int .i64 0, .int .i64 0, .int .i64 0, .int .i64 0] 56 (0, 0))
  fo : FrO wr (g + 2) (.slice (some ⟨F, 0, none⟩) s.fr.length c) s.fr ds
  po : wr.ownsRow (g + 2) 99 7 pv np (pnL s.pn)
  bel : Below g w wr
theorem CQ.next {w wr W : World} {g F c np pk : Nat} {PK : Option Addr} {pv : Value} {s : ST} {dso ds : List Value} (h : CQ w wr g F c pv s dso s.fr.length ds) (hF : g + 2 ≤ F) (hW : Below wr.heap.size wr W)
    (hp : W.ownsRow wr.heap.size 99 7 (.slice PK np pk) np (pnL s.pn)) : CR w (W.setCell ⟨g, 1, none⟩ (.slice PK np pk)) g F c (.slice PK np pk) np s ds := by
  have hFz := (h.fk.row.lt F rfl).2
  have hs' := (hW.block g (by omega)).trans h.hs
  have hfo : FrO W (g + 2) (.slice (some ⟨F, 0, none⟩) s.fr.length c) s.fr ds := h.fk.done.stay fun b cs t hb _ => hW.block b (Array.getElem?_eq_some_iff.1 hb).1
  exact ⟨heap_setN hs' _, (sc_keep (by omega)).trans ((hW.block (g + 1) (by omega)).trans h.hr), hfo.setP hs' (by decide) (by decide), own_base (own_setP hp hs' (by decide)) (by omega), (h.bel.trans (hW.mono (by omega))).setCell (p := ⟨g, 1, none⟩) (Nat.le_refl _) _⟩
theorem CR.into {w wr W : World} {g F c np : Nat} {pv : Value} {s : ST} {ds : List Value} (h : CR w wr g F c pv np s ds) (hF : g + 2 ≤ F) (hW : Below wr.heap.size wr W) : CR w W g F c pv np s ds := by
  have hFz := (h.fo.row.lt F rfl).2
  exact ⟨(hW.block g (by omega)).trans h.hs, (hW.block (g + 1) (by omega)).trans h.hr, h.fo.stay fun b cs t hb _ => hW.block b (Array.getElem?_eq_some_iff.1 hb).1, own_below h.po hW, h.bel.trans (hW.mono (by omega))⟩
theorem CR.put {w wr : World} {g F c np Q pk i : Nat} {s : ST} {ds : List Value} {v : Value} (h : CR w wr g F c (.slice (some ⟨Q, 0, none⟩) np pk) np s ds) (hv : (pnL s.pn)[i]? = some v) : CR w (wr.setCell ⟨Q, i, none⟩ v) g F c (.slice (some ⟨Q, 0, none⟩) np pk) np s ds := by
  have hQ := (h.po.lt Q rfl).1
  obtain ⟨cur, hq⟩ := own_ty (b := Q) h.po rfl
  refine ⟨(sc_keep (by omega)).trans h.hs, (sc_keep (by omega)).trans h.hr, h.fo.setP hq (by decide) (by decide), ?_, h.bel.setCell (p := ⟨Q, i, none⟩) (by show g ≤ Q; omega) v⟩
  have hst := (h.po.stored i v).1
  have e : (pnL s.pn).set i v = pnL s.pn := by
    refine List.ext_getElem? fun j => ?_
    rw [List.getElem?_set]
    split
    · next e => subst e; rw [hv, if_pos (List.getElem?_eq_some_iff.1 hv).1]
    · rfl
  rw [e] at hst
  exact hst
theorem CR.val {w wr W : World} {g F c np Q pk k : Nat} {s : ST} {ds : List Value} {p : PN} (h : CR w wr g F c (.slice (some ⟨Q, 0, none⟩) np pk) np s ds) (hF : g + 2 ≤ F) (hp : s.pn[k]? = some p) (hW : Below wr.heap.size wr W) :
    CR w ((((W.setCell ⟨Q, k * 7 + 1, none⟩ (.int .i64 p.k)).setCell ⟨Q, k * 7 + 2, none⟩ (.int .i64 p.n)).setCell ⟨Q, k * 7 + 3, none⟩ (.string p.s)).setCell ⟨Q, k * 7 + 4, none⟩ (.slice none 0 0)) g F c (.slice (some ⟨Q, 0, none⟩) np pk) np s ds :=
  ((((h.into hF hW).put (by rw [pnL_get hp (by omega)]; rfl)).put (by rw [pnL_get hp (by omega)]; rfl)).put (by rw [pnL_get hp (by omega)]; rfl)).put (by rw [pnL_get hp (by omega)]; rfl)
theorem plain_same (p : PN) (h : PnOk p) (w : World) : Calls Try.prog 70 #[val p.k p.n p.s none 0 0] w fun e w' => e = .returned (val p.k p.n p.s none 0 0) ∧ Below w.heap.size w w' := by
  refine (valuePlain_may p.k p.n p.s none 0 0 w h.1).mono ?_
  rintro e w' ⟨rfl, hb⟩
  rw [← h.2.1, ← h.2.2]
  exact ⟨rfl, hb⟩
set_option maxHeartbeats 8000000 in
theorem pcopied_any (FA PA : Option Addr) (nf fc np pc : Nat) (s : ST) (w : World) (hs : STr w w.heap.size (.slice FA nf fc) (.slice PA np pc) s) (hok : ∀ p ∈ s.pn, PnOk p) (h0 : nf ≠ 0) (hf30 : nf ≤ 1000) (hp2 : np ≤ 100000) (hds : ∀ f ∈ s.fr, f.ds.length ≤ 100000) :
    Calls Try.prog 46 #[stV (.slice FA nf fc) (.slice PA np pc) s] w fun e w' => ∃ fv pv ds, e = .returned (stV fv pv s) ∧ FrO w' w.heap.size fv s.fr ds ∧ w'.ownsRow w.heap.size 99 7 pv s.pn.length (pnL s.pn) ∧ Below w.heap.size w w' := by
  obtain ⟨⟨FA', fc', dso, e1, _, _, hfr⟩, ⟨PA', pc', e2, _, _, hpn⟩⟩ := hs
  injection e1 with e1 e3 e4
  injection e2 with e2 e5 e6
  subst e1 e3 e4 e2 e5 e6
  obtain ⟨nf, hnf⟩ : ∃ n, s.fr.length = n := ⟨_, rfl⟩
  obtain ⟨np, hnp⟩ : ∃ n, s.pn.length = n := ⟨_, rfl⟩
  have HFR := Lib.hid hfr
  have HPN := Lib.hid hpn
  have HNF := Lib.hid hnf
  have HNP := Lib.hid hnp
  rw [hnf] at hf30 h0 ⊢
  rw [hnp] at hp2 ⊢
  have HOK := Lib.hid hok
  have HDS := Lib.hid hds
  clear hfr hpn hok hds hnf hnp
  go_enter Try.func46, Try.ntmps46
  go_wp2_with fail
  have HBA := Lib.hid (show Below w.heap.size w ((w.alloc (.cells #[.slice FA nf fc, .slice PA np pc, .int .i64 (s.next : Int), .int .i64 (s.ser : Int), .int .i64 s.en, .int .i64 s.st] 56)).alloc (.cells #[.slice none 0 0, .slice none 0 0, .int .i64 0, .int .i64 0, .int .i64 0, .int .i64 0] 56)) from sq (al _) (al _))
  have HXA := Lib.hid (show ((w.alloc (.cells #[.slice FA nf fc, .slice PA np pc, .int .i64 (s.next : Int), .int .i64 (s.ser : Int), .int .i64 s.en, .int .i64 s.st] 56)).alloc (.cells #[.slice none 0 0, .slice none 0 0, .int .i64 0, .int .i64 0, .int .i64 0, .int .i64 0] 56)).heap[w.heap.size]? = _ from (Lib.alloc_old _ _ _ (by simp)).trans (heap_alloc_new w _))
  have HRA := Lib.hid (show ((w.alloc (.cells #[.slice FA nf fc, .slice PA np pc, .int .i64 (s.next : Int), .int .i64 (s.ser : Int), .int .i64 s.en, .int .i64 s.st] 56)).alloc (.cells #[.slice none 0 0, .slice none 0 0, .int .i64 0, .int .i64 0, .int .i64 0, .int .i64 0] 56)).heap[w.heap.size + 1]? = _ from heap_atN _ (by simp))
  have HZA := Lib.hid (show ((w.alloc (.cells #[.slice FA nf fc, .slice PA np pc, .int .i64 (s.next : Int), .int .i64 (s.ser : Int), .int .i64 s.en, .int .i64 s.st] 56)).alloc (.cells #[.slice none 0 0, .slice none 0 0, .int .i64 0, .int .i64 0, .int .i64 0, .int .i64 0] 56)).heap.size = w.heap.size + 2 by simp)
  generalize ((w.alloc (.cells #[.slice FA nf fc, .slice PA np pc, .int .i64 (s.next : Int), .int .i64 (s.ser : Int), .int .i64 s.en, .int .i64 s.st] 56)).alloc (.cells #[.slice none 0 0, .slice none 0 0, .int .i64 0, .int .i64 0, .int .i64 0, .int .i64 0] 56)) = wa at *
  refine Calls.mono (frClone_any FA nf fc (frL s.fr dso) wa (by have := (HFR.out.row.below HBA.out).more (show w.heap.size ≤ wa.heap.size by have := HZA.out; omega); rw [HNF.out] at this; exact this) (frL_one fun i d hd => by
    obtain ⟨f, hf⟩ : ∃ f, s.fr[i]? = some f := ⟨_, List.getElem?_eq_getElem (by have := HFR.out.len; have := (List.getElem?_eq_some_iff.1 hd).1; omega)⟩
    obtain ⟨D, c, rfl, _⟩ := HFR.out.dr i f d hf hd
    rfl) (by omega)) ?_
  rintro e w2 ⟨A2, c2, rfl, hown, hb2⟩
  obtain ⟨F, c', e', hF, hFz, _, _⟩ := own_formF hown (by omega)
  injection e' with e' _ e''
  subst e' e''
  have hx2 := (hb2.block w.heap.size (by have := HZA.out; omega)).trans HXA.out
  have HR2 := Lib.hid ((hb2.block (w.heap.size + 1) (by have := HZA.out; omega)).trans HRA.out)
  have HX2 := Lib.hid hx2
  have x0 : w2.cell? ⟨w.heap.size, 0, none⟩ = some (.slice FA nf fc) := by rw [Lib.cell_of_heap hx2]; rfl
  have z0 := Lib.frozen_of_heap hx2 0
  have HB2 := Lib.hid (HBA.out.trans (hb2.mono (by have := HZA.out; omega)))
  have HO2 := Lib.hid hown
  have HFG := Lib.hid hF
  clear hx2 hown hb2 hF
  go_wp2_with fail
  have HCQ0 := Lib.hid (show CQ w (w2.setCell ⟨w.heap.size, 0, none⟩ (.slice (some ⟨F, 0, none⟩) nf c2)) w.heap.size F c2 (.slice PA np pc) s dso 0 [] from by
    refine ⟨?_, (sc_keep (by omega)).trans HR2.out, ⟨?_, rfl, HFR.out.len, fun i f d h h' => by simp at h', fun i j d d' b h => by simp at h⟩, HB2.out.setCell (p := ⟨w.heap.size, 0, none⟩) (Nat.le_refl _) _⟩
    · rw [HNF.out]; exact heap_setN HX2.out _
    · rw [HNF.out]
      exact own_base (own_setP HO2.out HX2.out (by decide)) (by have := HZA.out; omega))
  clear x0 z0 HX2 HR2 HB2 HO2 HXA HRA HBA
  have hFg : w.heap.size + 2 ≤ F := by have := HFG.out; have := HZA.out; omega
  generalize w2.setCell ⟨w.heap.size, 0, none⟩ (.slice (some ⟨F, 0, none⟩) nf c2) = w3 at *
  go_loopw [12] (fun i wr => ∃ (k : Nat) (ds : List Value), k ≤ nf ∧ i = .int .i64 (k : Int) ∧ Hid (CQ w wr w.heap.size F c2 (.slice PA np pc) s dso k ds)) (fun i _ => nf - (intOf i).toNat)
  case atStart => exact ⟨0, [], Nat.zero_le _, rfl, HCQ0⟩
  case round =>
    obtain ⟨k, ds, hk, rfl, HC⟩ := hrel
    by_cases hlt : k < nf
    · obtain ⟨f, hf⟩ : ∃ f, s.fr[k]? = some f := ⟨_, List.getElem?_eq_getElem (by rw [HNF.out]; exact hlt)⟩
      obtain ⟨d, hd⟩ := HFR.out.form hf
      obtain ⟨D, dc, rfl, hdc, hdm, hdr⟩ := HFR.out.dr k f _ hf hd
      obtain ⟨m, hm⟩ : ∃ m, f.ds.length = m := ⟨_, rfl⟩
      have hm2 : m ≤ 100000 := by rw [← hm]; exact HDS.out f (List.mem_of_getElem? hf)
      have hxs := HC.out.hs
      rw [HNF.out] at hxs
      have x0 : wr.cell? ⟨w.heap.size, 0, none⟩ = some (.slice (some ⟨F, 0, none⟩) nf c2) := by rw [Lib.cell_of_heap hxs]; rfl
      have q4 : wr.cell? ⟨F, k * 5 + 4, none⟩ = some (.slice D m dc) := by
        rw [HC.out.fk.row.cellAt _ (by have := HNF.out; omega)]
        have e : (frL s.fr (ds ++ dso.drop k))[k * 5 + 4]? = (frC f (.slice D f.ds.length dc))[4]? := frL_get hf (by
          rw [List.getElem?_append_right (by rw [HC.out.fk.len]; exact Nat.le_refl _), HC.out.fk.len, Nat.sub_self, List.getElem?_drop]
          simpa using hd) (by omega)
        rw [e, hm]
        rfl
      have q4z : wr.frozen? ⟨F, k * 5 + 4, none⟩ = false := HC.out.fk.row.frozenAt _
      have hlti : (k : Int) < (nf : Int) := by omega
      have hki : ¬ (k : Int) < 0 := by omega
      have hFz3 : F < wr.heap.size := (HC.out.fk.row.lt F rfl).2
      have hgz : w.heap.size < wr.heap.size := by omega
      rw [hm] at hdr
      have HDR := Lib.hid (show Rd wr.drew wr.drew.heap.size 1 D m (f.ds.map (Value.int .i64)) from (hdr.below HC.out.bel).more (by omega : w.heap.size ≤ wr.heap.size))
      have HF := Lib.hid hf
      have HM := Lib.hid hm
      clear hdr hf hd hm hxs hdm hdc
      go_wp2_with fail
      go_region_law (
         (go_must (go_simp; (go_at_call 74); refine (clone_any D m dc f.ds wr.drew HDR.out (by omega)).mono ?_; rintro e w5 ⟨A5, c5, rfl, hown5, hb5⟩; have hb5' : Below wr.heap.size wr w5 := ⟨hb5.os, hb5.tape, hb5.output, hb5.size, hb5.block⟩; have x05 := (hb5'.cell (p := ⟨w.heap.size, 0, none⟩) hgz).trans x0; have q45 := (hb5'.cell (p := ⟨F, k * 5 + 4, none⟩) hFz3).trans q4; have q4z5 := (hb5'.frozen (p := ⟨F, k * 5 + 4, none⟩) hFz3).trans q4z)))
      all_goals (
        have HC5 := Lib.hid (HC.out.step hFg HF.out HM.out hb5' hown5)
        clear x05 q45 q4z5 hown5 hb5 hb5' q4 q4z x0
        generalize w5.setCell ⟨F, k * 5 + 4, none⟩ (.slice A5 m c5) = w6 at *
        go_wp2_with fail
        go_roundw
        case rel => exact ⟨k + 1, _, by omega, by go_num, HC5⟩
        case measure => simp [intOf]; omega)
    · obtain rfl : k = nf := by omega
      have hxs := HC.out.hs
      rw [HNF.out] at hxs
      have x1 : wr.cell? ⟨w.heap.size, 1, none⟩ = some (.slice PA np pc) := by rw [Lib.cell_of_heap hxs]; rfl
      have HX := Lib.hid hxs
      clear hxs
      go_wp2_with fail
      have hwz : w.heap.size + 2 ≤ wr.heap.size := by have := (HC.out.fk.row.lt F rfl).2; omega
      refine Calls.mono (pnClone_any PA np pc (pnL s.pn) wr (by have := (HPN.out.below HC.out.bel).more (show w.heap.size ≤ wr.heap.size by omega); rw [HNP.out] at this; exact this) (fun u hu => by
        obtain ⟨q, hq, hu⟩ := List.mem_flatten.1 hu
        obtain ⟨p, _, rfl⟩ := List.mem_map.1 hq
        simp [pnC] at hu
        rcases hu with rfl | rfl | rfl | rfl | rfl | rfl | rfl <;> rfl) (by omega)) ?_
      rintro e w5 ⟨PK, pk, rfl, hown5, hb5⟩
      have HCR := Lib.hid (show CR w (w5.setCell ⟨w.heap.size, 1, none⟩ (.slice PK np pk)) w.heap.size F c2 (.slice PK np pk) np s ds from CQ.next (by rw [HNF.out]; exact HC.out) hFg hb5 hown5)
      have hx5 := (hb5.block w.heap.size (by omega)).trans HX.out
      have x1 : w5.cell? ⟨w.heap.size, 1, none⟩ = some (.slice PA np pc) := by rw [Lib.cell_of_heap hx5]; rfl
      have z1 := Lib.frozen_of_heap hx5 1
      clear hown5 hb5 HC HX hx5 hwz
      go_wp2_with fail
      clear x1 z1
      generalize w5.setCell ⟨w.heap.size, 1, none⟩ (.slice PK np pk) = w6 at *
      go_loopw [35] (fun i wq => ∃ j : Nat, j ≤ np ∧ i = .int .i64 (j : Int) ∧ Hid (CR w wq w.heap.size F c2 (.slice PK np pk) np s ds)) (fun i _ => np - (intOf i).toNat)
      case atStart => exact ⟨0, Nat.zero_le _, rfl, HCR⟩
      case round =>
        obtain ⟨j, hj, rfl, HC⟩ := hrel
        by_cases hlt2 : j < np
        · obtain ⟨p, hp⟩ : ∃ p, s.pn[j]? = some p := ⟨_, List.getElem?_eq_getElem (by rw [HNP.out]; exact hlt2)⟩
          obtain ⟨Q, c', e', hQ, hQz, _, _⟩ := own_formF HC.out.po (by omega)
          injection e' with e' _ e''
          subst e' e''
          have hxs := HC.out.hs
          rw [HNF.out] at hxs
          have x1 : wr.cell? ⟨w.heap.size, 1, none⟩ = some (.slice (some ⟨Q, 0, none⟩) np pk) := by rw [Lib.cell_of_heap hxs]; rfl
          have hcell : ∀ i, i < 7 → wr.cell? ⟨Q, j * 7 + i, none⟩ = (pnC p)[i]? := fun i hi => by
            rw [HC.out.po.cellAt _ (by omega)]
            exact pnL_get hp hi
          have g1 : wr.cell? ⟨Q, j * 7 + 1, none⟩ = some (.int .i64 p.k) := hcell 1 (by omega)
          have g2 : wr.cell? ⟨Q, j * 7 + 2, none⟩ = some (.int .i64 p.n) := hcell 2 (by omega)
          have g3 : wr.cell? ⟨Q, j * 7 + 3, none⟩ = some (.string p.s) := hcell 3 (by omega)
          have g4 : wr.cell? ⟨Q, j * 7 + 4, none⟩ = some (.slice none 0 0) := hcell 4 (by omega)
          have z1 := HC.out.po.frozenAt (j * 7 + 1)
          have z2 := HC.out.po.frozenAt (j * 7 + 2)
          have z3 := HC.out.po.frozenAt (j * 7 + 3)
          have z4 := HC.out.po.frozenAt (j * 7 + 4)
          have HP := Lib.hid hp
          have HOKP := Lib.hid (HOK.out p (List.mem_of_getElem? hp))
          have hlti : (j : Int) < (np : Int) := by omega
          have hki : ¬ (j : Int) < 0 := by omega
          have hgz : w.heap.size < wr.heap.size := by omega
          clear hcell hp hxs
          go_wp2_with fail
          go_region_law (
           (go_must (go_simp; (go_at_call 70); refine (plain_same p HOKP.out wr.drew).mono ?_; rintro e w7 ⟨rfl, hb7⟩; have hb7' : Below wr.heap.size wr w7 := ⟨hb7.os, hb7.tape, hb7.output, hb7.size, hb7.block⟩; have x17 := (hb7'.cell (p := ⟨w.heap.size, 1, none⟩) hgz).trans x1; have g17 := (hb7'.cell (p := ⟨Q, j * 7 + 1, none⟩) hQz).trans g1; have g27 := (hb7'.cell (p := ⟨Q, j * 7 + 2, none⟩) hQz).trans g2; have g37 := (hb7'.cell (p := ⟨Q, j * 7 + 3, none⟩) hQz).trans g3; have g47 := (hb7'.cell (p := ⟨Q, j * 7 + 4, none⟩) hQz).trans g4; have z17 := (hb7'.frozen (p := ⟨Q, j * 7 + 1, none⟩) hQz).trans z1; have z27 := (hb7'.frozen (p := ⟨Q, j * 7 + 2, none⟩) hQz).trans z2; have z37 := (hb7'.frozen (p := ⟨Q, j * 7 + 3, none⟩) hQz).trans z3; have z47 := (hb7'.frozen (p := ⟨Q, j * 7 + 4, none⟩) hQz).trans z4)))
          all_goals (
            have HC7 := Lib.hid (HC.out.val hFg HP.out hb7')
            clear x17 g17 g27 g37 g47 z17 z27 z37 z47 hb7 hb7' g1 g2 g3 g4 z1 z2 z3 z4 x1 HC
            generalize (((w7.setCell ⟨Q, j * 7 + 1, none⟩ (.int .i64 p.k)).setCell ⟨Q, j * 7 + 2, none⟩ (.int .i64 p.n)).setCell ⟨Q, j * 7 + 3, none⟩ (.string p.s)).setCell ⟨Q, j * 7 + 4, none⟩ (.slice none 0 0) = w8 at *
            go_wp2_with fail
            go_roundw
            case rel => exact ⟨j + 1, by omega, by go_num, HC7⟩
            case measure => simp [intOf]; omega)
        · have hxs := HC.out.hs
          rw [HNF.out] at hxs
          have hrs := HC.out.hr
          have q0 : wr.cell? ⟨w.heap.size, 0, none⟩ = some (.slice (some ⟨F, 0, none⟩) k c2) := by rw [Lib.cell_of_heap hxs]; rfl
          have q1 : wr.cell? ⟨w.heap.size, 1, none⟩ = some (.slice PK np pk) := by rw [Lib.cell_of_heap hxs]; rfl
          have q2 : wr.cell? ⟨w.heap.size, 2, none⟩ = some (.int .i64 (s.next : Int)) := by rw [Lib.cell_of_heap hxs]; rfl
          have q3 : wr.cell? ⟨w.heap.size, 3, none⟩ = some (.int .i64 (s.ser : Int)) := by rw [Lib.cell_of_heap hxs]; rfl
          have q4 : wr.cell? ⟨w.heap.size, 4, none⟩ = some (.int .i64 s.en) := by rw [Lib.cell_of_heap hxs]; rfl
          have q5 : wr.cell? ⟨w.heap.size, 5, none⟩ = some (.int .i64 s.st) := by rw [Lib.cell_of_heap hxs]; rfl
          have r0 : wr.cell? ⟨w.heap.size + 1, 0, none⟩ = some (.slice none 0 0) := by rw [Lib.cell_of_heap hrs]; rfl
          have r1 : wr.cell? ⟨w.heap.size + 1, 1, none⟩ = some (.slice none 0 0) := by rw [Lib.cell_of_heap hrs]; rfl
          have r2 : wr.cell? ⟨w.heap.size + 1, 2, none⟩ = some (.int .i64 0) := by rw [Lib.cell_of_heap hrs]; rfl
          have r3 : wr.cell? ⟨w.heap.size + 1, 3, none⟩ = some (.int .i64 0) := by rw [Lib.cell_of_heap hrs]; rfl
          have r4 : wr.cell? ⟨w.heap.size + 1, 4, none⟩ = some (.int .i64 0) := by rw [Lib.cell_of_heap hrs]; rfl
          have r5 : wr.cell? ⟨w.heap.size + 1, 5, none⟩ = some (.int .i64 0) := by rw [Lib.cell_of_heap hrs]; rfl
          have y0 := Lib.frozen_of_heap hrs 0
          have y1 := Lib.frozen_of_heap hrs 1
          have y2 := Lib.frozen_of_heap hrs 2
          have y3 := Lib.frozen_of_heap hrs 3
          have y4 := Lib.frozen_of_heap hrs 4
          have y5 := Lib.frozen_of_heap hrs 5
          have HRS := Lib.hid hrs
          have HFE := Lib.hid hFg
          clear hxs hrs
          go_wp2_with fail
          obtain ⟨w7, hw7, b7, k7, l7, s7⟩ := six_at (w := wr) (g := w.heap.size + 1) (.slice (some ⟨F, 0, none⟩) k c2) (.slice PK np pk) (.int .i64 (s.next : Int)) (.int .i64 (s.ser : Int)) (.int .i64 s.en) (.int .i64 s.st) HRS.out
          rw [← hw7]
          have HB7 := Lib.hid (l7 w.heap.size (Nat.le_succ _) w HC.out.bel)
          have HF7 := Lib.hid (show FrO w7 w.heap.size (.slice (some ⟨F, 0, none⟩) s.fr.length c2) s.fr ds from (HC.out.fo.stay fun b cs t hb ht => k7 b (fun e => by
            rw [e, HRS.out] at hb
            injection hb with hb
            injection hb with _ hb
            subst hb
            rcases ht with ht | ht <;> exact absurd ht (by decide))).base_to (by omega))
          have HP7 := Lib.hid (own_base (own_stay (w' := w7) HC.out.po fun b hb => k7 b (fun e => by have := (HC.out.po.lt b hb).1; omega)) (by omega : w.heap.size ≤ w.heap.size + 2))
          rw [HNF.out] at HF7
          clear q0 q1 q2 q3 q4 q5 r0 r1 r2 r3 r4 r5 y0 y1 y2 y3 y4 y5 hw7 k7 l7 s7
          have r0 : w7.cell? ⟨w.heap.size + 1, 0, none⟩ = some (.slice (some ⟨F, 0, none⟩) k c2) := by rw [Lib.cell_of_heap b7]; rfl
          have r1 : w7.cell? ⟨w.heap.size + 1, 1, none⟩ = some (.slice PK np pk) := by rw [Lib.cell_of_heap b7]; rfl
          have r2 : w7.cell? ⟨w.heap.size + 1, 2, none⟩ = some (.int .i64 (s.next : Int)) := by rw [Lib.cell_of_heap b7]; rfl
          have r3 : w7.cell? ⟨w.heap.size + 1, 3, none⟩ = some (.int .i64 (s.ser : Int)) := by rw [Lib.cell_of_heap b7]; rfl
          have r4 : w7.cell? ⟨w.heap.size + 1, 4, none⟩ = some (.int .i64 s.en) := by rw [Lib.cell_of_heap b7]; rfl
          have r5 : w7.cell? ⟨w.heap.size + 1, 5, none⟩ = some (.int .i64 s.st) := by rw [Lib.cell_of_heap b7]; rfl
          clear b7
          refine bodyPost_ret (v := stV (.slice (some ⟨F, 0, none⟩) k c2) (.slice PK np pk) s) (by simp [results, Try.results46, go_sem, r0, r1, r2, r3, r4, r5]) rfl ?_
          exact ⟨_, _, ds, rfl, HF7.out, HP7.out, HB7.out⟩
end Go.Proofs.Ytapofohbngkekaa
