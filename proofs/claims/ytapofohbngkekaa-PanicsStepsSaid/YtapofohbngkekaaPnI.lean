/- The document's 'CopyState'. Conditions: bounds; what holds of all states that are come to. -/
import Derived.Test.YtapofohbngkekaaPnH
set_option maxRecDepth 100000
namespace Go.Proofs.Ytapofohbngkekaa
open Go.ChangeShapes Go.WideShapes Go.ChangeAt Go.RowKit
theorem frL_get {l : List FR} {ds : List Value} {i j : Nat} {f : FR} {d : Value} (h : l[i]? = some f) (hd : ds[i]? = some d) (hj : j < 5) : (frL l ds)[i * 5 + j]? = (frC f d)[j]? := by
  unfold frL
  rw [flat_at (fun c hc => by obtain ⟨q, hq, rfl⟩ := List.mem_iff_getElem.1 hc; simp [frC]) i j hj, List.getElem?_zipWith, h, hd]
  rfl
/-- An activation with a row of its own is laid by. -/
theorem FrO.snoc {w w' : World} {base : Nat} {fv v' d : Value} {l : List FR} {ds : List Value} {f : FR} (h : FrO w base fv l ds) (hk : ∀ (b : Nat) (cs : Array Value), w.heap[b]? = some (Obj.cells cs 3 (0, 0)) → w'.heap[b]? = w.heap[b]?)
    (hrow : w'.ownsRow base 93 5 v' (l.length + 1) (frL l ds ++ frC f d)) (hd : w'.ownsRow base 3 1 d f.ds.length (f.ds.map (Value.int .i64))) (hdis : ∀ b, d.ownBlock = some b → w.heap.size ≤ b) : FrO w' base v' (l ++ [f]) (ds ++ [d]) := by
  have hold : ∀ (i : Nat) (d' : Value), ds[i]? = some d' → ∀ b, d'.ownBlock = some b → b < w.heap.size := fun i d' hi b hb => by
    have hil := (List.getElem?_eq_some_iff.1 hi).1
    have hil2 : i < l.length := by rw [← h.len]; exact hil
    exact ((h.dr i l[i] d' (List.getElem?_eq_getElem hil2) hi).lt b hb).2
  refine ⟨by rw [frL_snoc h.len]; simpa using hrow, by simp [h.len], fun i g e hg he => ?_, fun i j e e' b hi hj hb hb' => ?_⟩
  · by_cases hi : i < l.length
    · rw [List.getElem?_append_left hi] at hg
      rw [List.getElem?_append_left (by rw [h.len]; exact hi)] at he
      refine own_stay (h.dr i g e hg he) fun b hb => ?_
      obtain ⟨c, e1⟩ := own_ty (h.dr i g e hg he) hb
      exact hk b c e1
    · have h1 := (List.getElem?_eq_some_iff.1 hg).1
      obtain rfl : i = l.length := by simp at h1; omega
      simp at hg
      subst hg
      rw [← h.len] at he
      simp at he
      subst he
      exact hd
  · have key : ∀ (i : Nat) (e : Value), (ds ++ [d])[i]? = some e → (i < ds.length ∧ ds[i]? = some e) ∨ (i = ds.length ∧ e = d) := fun i e hi => by
      rcases Nat.lt_or_ge i ds.length with h1 | h1
      · rw [List.getElem?_append_left h1] at hi
        exact .inl ⟨h1, hi⟩
      · have h2 := (List.getElem?_eq_some_iff.1 hi).1
        have h3 : i = ds.length := by simp at h2; omega
        subst h3
        simp at hi
        exact .inr ⟨rfl, hi.symm⟩
    rcases key i e hi with ⟨h1, h2⟩ | ⟨rfl, rfl⟩ <;> rcases key j e' hj with ⟨h3, h4⟩ | ⟨rfl, rfl⟩
    · exact h.dis i j e e' b h2 h4 hb hb'
    · have := hold i e h2 b hb
      have := hdis b hb'
      omega
    · have := hold j e' h4 b hb'
      have := hdis b hb
      omega
    · rfl
theorem FrO.base_to {w : World} {base b : Nat} {fv : Value} {l : List FR} {ds : List Value} (h : FrO w base fv l ds) (hb : b ≤ base) : FrO w b fv l ds :=
  ⟨own_base h.row hb, h.len, fun i f d hf hd => own_base (h.dr i f d hf hd) hb, h.dis⟩
/-- The boxes of the copy: the state, the answer, the copy itself with its rows. -/
structure CP (w : World) (g : Nat) (fv0 pv0 : Value) (s : ST) (l : List FR) (ps : List PN) (fv pv : Value) (ds : List Value) (wr : World) : Prop where
  hs : wr.heap[g]? = some (.cells #[fv0, pv0, .int .i64 (s.next : Int), .int .i64 (s.ser : Int), .int .i64 s.en, .int .i64 s.st] 56 (0, 0))
  hr : wr.heap[g + 1]? = some (.cells #[.slice none 0 0, .slice none 0 0, .int .i64 0, .int .i64 0, .int .i64 0, .int .i64 0] 56 (0, 0))
  ht : wr.heap[g + 1 + 1]? = some (.cells #[fv, pv, .int .i64 (s.next : Int), .int .i64 (s.ser : Int), .int .i64 s.en, .int .i64 s.st] 56 (0, 0))
  fr : FrO wr (g + 3) fv l ds
  pn : wr.ownsRow (g + 3) 99 7 pv ps.length (pnL ps)
  bel : Below g w wr
theorem CP.gz {w : World} {g : Nat} {fv0 pv0 : Value} {s : ST} {l : List FR} {ps : List PN} {fv pv : Value} {ds : List Value} {wr : World} (h : CP w g fv0 pv0 s l ps fv pv ds wr) : g + 1 + 1 < wr.heap.size := (Array.getElem?_eq_some_iff.1 h.ht).1
/-- A round of the first loop: an activation more. -/
theorem CP.frame {w : World} {g : Nat} {fv0 pv0 : Value} {s : ST} {l : List FR} {ps : List PN} {fv pv v' d : Value} {ds : List Value} {wr W w' : World} {f : FR} {n m : Nat} (h : CP w g fv0 pv0 s l ps fv pv ds wr) (hW : Below wr.heap.size wr W) (hn : l.length = n) (hm : f.ds.length = m)
    (hown : w'.ownsRow (g + 3) 93 5 v' (n + 1) (frL l ds ++ frC f d)) (hg : W.grownBy w' fv.ownBlock) (hd : W.ownsRow wr.heap.size 3 1 d m (f.ds.map (Value.int .i64))) : CP w g fv0 pv0 s (l ++ [f]) ps v' pv (ds ++ [d]) (w'.setCell ⟨g + 1 + 1, 0, none⟩ v') := by
  have hz := h.gz
  have hkeep : ∀ b, b < g + 3 → w'.heap[b]? = wr.heap[b]? := fun b hb => (hg.block b (by have := hW.size; omega) (fun e => by have := (h.fr.row.lt b e.symm).1; omega)).trans (hW.block b (by omega))
  have hk := KT.grow h.fr.row hW hg
  have hdw : w'.ownsRow (g + 3) 3 1 d m (f.ds.map (Value.int .i64)) := own_base (own_stay hd fun b hb => hg.block b (hd.lt b hb).2 (fun e => by
    have h1 := (h.fr.row.lt b e.symm).2
    have h2 := (hd.lt b hb).1
    omega)) (by omega)
  have hfr : FrO w' (g + 3) v' (l ++ [f]) (ds ++ [d]) := h.fr.snoc (fun b cs hb => hk b cs _ hb (by decide)) (by rw [hn]; exact hown) (by rw [hm]; exact hdw) (fun b hb => (hd.lt b hb).1)
  have ht' : w'.heap[g + 1 + 1]? = _ := (hkeep (g + 1 + 1) (by omega)).trans h.ht
  refine ⟨(sc_keep (by omega)).trans ((hkeep g (by omega)).trans h.hs), (sc_keep (by omega)).trans ((hkeep (g + 1) (by omega)).trans h.hr), heap_setN ht' _, hfr.setP ht' (by decide) (by decide), own_setP (own_stayT h.pn fun b cs t hb ht => hk b cs t hb (by subst ht; decide)) ht' (by decide), ?_⟩
  exact ((h.bel.trans (hW.mono (by omega))).grown hg (by have := hW.size; omega) (fun q hq => by have := (h.fr.row.lt q hq).1; omega)).setCell (p := ⟨g + 1 + 1, 0, none⟩) (by show g ≤ g + 1 + 1; omega) _
/-- A round of the second loop: a panic more. -/
theorem CP.pan {w : World} {g : Nat} {fv0 pv0 : Value} {s : ST} {l : List FR} {ps : List PN} {fv pv v' : Value} {ds : List Value} {wr W w' : World} {p : PN} {n : Nat} (h : CP w g fv0 pv0 s l ps fv pv ds wr) (hW : Below wr.heap.size wr W) (hn : ps.length = n)
    (hown : w'.ownsRow (g + 3) 99 7 v' (n + 1) (pnL ps ++ pnC p)) (hg : W.grownBy w' pv.ownBlock) : CP w g fv0 pv0 s l (ps ++ [p]) fv v' ds (w'.setCell ⟨g + 1 + 1, 1, none⟩ v') := by
  have hz := h.gz
  have hkeep : ∀ b, b < g + 3 → w'.heap[b]? = wr.heap[b]? := fun b hb => (hg.block b (by have := hW.size; omega) (fun e => by have := (h.pn.lt b e.symm).1; omega)).trans (hW.block b (by omega))
  have hk := KT.grow h.pn hW hg
  have ht' : w'.heap[g + 1 + 1]? = _ := (hkeep (g + 1 + 1) (by omega)).trans h.ht
  refine ⟨(sc_keep (by omega)).trans ((hkeep g (by omega)).trans h.hs), (sc_keep (by omega)).trans ((hkeep (g + 1) (by omega)).trans h.hr), heap_setN ht' _, (h.fr.stay fun b cs t hb ht => hk b cs t hb (by rcases ht with rfl | rfl <;> decide)).setP ht' (by decide) (by decide), own_setP ?_ ht' (by decide), ?_⟩
  · rw [pnL_snoc, List.length_append, List.length_singleton, hn]
    exact hown
  · exact ((h.bel.trans (hW.mono (by omega))).grown hg (by have := hW.size; omega) (fun q hq => by have := (h.pn.lt q hq).1; omega)).setCell (p := ⟨g + 1 + 1, 1, none⟩) (by show g ≤ g + 1 + 1; omega) _
theorem pn_eta (p : PN) (h : PnOk p) : (⟨p.ser, p.k, plNv p.k p.n, plSv p.k p.s, p.rcv, p.ab⟩ : PN) = p := by
  obtain ⟨_, h1, h2⟩ := h
  rw [← h1, ← h2]
set_option maxHeartbeats 8000000 in
theorem copyState_any (FA PA : Option Addr) (nf fc np pc : Nat) (s : ST) (w : World) (hs : STr w w.heap.size (.slice FA nf fc) (.slice PA np pc) s) (hok : ∀ p ∈ s.pn, PnOk p) (hf30 : nf ≤ 1000) (hp2 : np ≤ 100000) (hds : ∀ f ∈ s.fr, f.ds.length ≤ 100000) :
    Calls Try.prog 21 #[stV (.slice FA nf fc) (.slice PA np pc) s] w fun e w' => ∃ fv pv ds, e = .returned (stV fv pv s) ∧ FrO w' w.heap.size fv s.fr ds ∧ w'.ownsRow w.heap.size 99 7 pv s.pn.length (pnL s.pn) ∧ Below w.heap.size w w' := by
  obtain ⟨j0, hj, jz0, jz1, jz2⟩ := info_parts info_frame
  obtain ⟨i0, hi, iz0, iz1, iz2⟩ := info_parts info_int
  obtain ⟨p0, hp, pz0, pz1, pz2⟩ := info_parts info_pn
  obtain ⟨⟨FA', fc', dso, e1, _, _, hfr⟩, ⟨PA', pc', e2, _, _, hpn⟩⟩ := hs
  injection e1 with e1 e3 e4
  injection e2 with e2 e5 e6
  subst e1 e3 e4 e2 e5 e6
  obtain ⟨nf, hnf⟩ : ∃ n, s.fr.length = n := ⟨_, rfl⟩
  obtain ⟨np, hnp⟩ : ∃ n, s.pn.length = n := ⟨_, rfl⟩
  have HFR := Lib.hid hfr
  have HPN := Lib.hid hpn
  have HNF := Lib.hid hnf
  have HNP := Lib.hid hnp
  rw [hnf] at hf30 ⊢
  rw [hnp] at hp2 ⊢
  have HOK := Lib.hid hok
  have HDS := Lib.hid hds
  clear hfr hpn hok hds hnf hnp
  go_enter Try.func21, Try.ntmps21
  go_wp2_with fail
  have HCP0 := Lib.hid (show CP w w.heap.size (.slice FA nf fc) (.slice PA np pc) s (s.fr.take 0) [] (.slice none 0 0) (.slice none 0 0) [] (((w.alloc (.cells #[.slice FA nf fc, .slice PA np pc, .int .i64 (s.next : Int), .int .i64 (s.ser : Int), .int .i64 s.en, .int .i64 s.st] 56)).alloc (.cells #[.slice none 0 0, .slice none 0 0, .int .i64 0, .int .i64 0, .int .i64 0, .int .i64 0] 56)).alloc (.cells #[.slice none 0 0, .slice none 0 0, .int .i64 (s.next : Int), .int .i64 (s.ser : Int), .int .i64 s.en, .int .i64 s.st] 56)) from
    ⟨by rw [Lib.alloc_old _ _ _ (by simp; omega), Lib.alloc_old _ _ _ (by simp)]; exact heap_alloc_new w _, by rw [Lib.alloc_old _ _ _ (by simp)]; exact heap_atN _ (by simp), heap_atN _ (by simp), ⟨World.ownsRow_nil _ _ _ _, rfl, fun i f d h => by simp at h, fun i j d d' b h => by simp at h⟩, World.ownsRow_nil _ _ _ _, sq (sq (al _) (al _)) (al _)⟩)
  generalize (((w.alloc (.cells #[.slice FA nf fc, .slice PA np pc, .int .i64 (s.next : Int), .int .i64 (s.ser : Int), .int .i64 s.en, .int .i64 s.st] 56)).alloc (.cells #[.slice none 0 0, .slice none 0 0, .int .i64 0, .int .i64 0, .int .i64 0, .int .i64 0] 56)).alloc (.cells #[.slice none 0 0, .slice none 0 0, .int .i64 (s.next : Int), .int .i64 (s.ser : Int), .int .i64 s.en, .int .i64 s.st] 56)) = wa at *
  go_loopw [14] (fun i wr => ∃ (k : Nat) (fv : Value) (ds : List Value), k ≤ nf ∧ i = .int .i64 (k : Int) ∧ Hid (CP w w.heap.size (.slice FA nf fc) (.slice PA np pc) s (s.fr.take k) [] fv (.slice none 0 0) ds wr)) (fun i _ => nf - (intOf i).toNat)
  case atStart => exact ⟨0, _, _, Nat.zero_le _, rfl, HCP0⟩
  case round =>
    obtain ⟨k, fv, ds, hk, rfl, HC⟩ := hrel
    obtain ⟨FK, fk, rfl⟩ := own_form HC.out.fr.row
    have hlk : (s.fr.take k).length = k := by rw [List.length_take, HNF.out]; omega
    rw [hlk] at HC
    have HLK := Lib.hid hlk
    have hz := HC.out.gz
    clear hlk
    by_cases hlt : k < nf
    · obtain ⟨f, hf⟩ : ∃ f, s.fr[k]? = some f := ⟨_, List.getElem?_eq_getElem (by rw [HNF.out]; exact hlt)⟩
      obtain ⟨d, hd⟩ := HFR.out.form hf
      obtain ⟨D, dc, rfl, hdc, hdm, hdr⟩ := HFR.out.dr k f _ hf hd
      obtain ⟨m, hm⟩ : ∃ m, f.ds.length = m := ⟨_, rfl⟩
      have hm2 : m ≤ 100000 := by rw [← hm]; exact HDS.out f (List.mem_of_getElem? hf)
      obtain ⟨b, off, rfl, hb, hcell⟩ := HFR.out.row.2 (by rw [HNF.out]; omega)
      have hcc : ∀ j, j < 5 → wr.cell? ⟨b, off + k * 5 + j, none⟩ = (frC f (.slice D m dc))[j]? := fun j hj => by
        have h1 : (frL s.fr dso)[k * 5 + j]? = (frC f (.slice D m dc))[j]? := by
          rw [← hm]
          exact frL_get hf hd hj
        have hj2 : j < (frC f (.slice D m dc)).length := hj
        rw [List.getElem?_eq_getElem hj2] at h1 ⊢
        have := hcell (k * 5 + j) _ h1
        rw [← Nat.add_assoc] at this
        exact (HC.out.bel.cell (p := ⟨b, _, none⟩) hb).trans this
      have e0 := hcc 0 (by omega)
      have e1 := hcc 1 (by omega)
      have e2 := hcc 2 (by omega)
      have e3 := hcc 3 (by omega)
      have e4 := hcc 4 (by omega)
      simp only [frC, List.getElem?_cons_zero, List.getElem?_cons_succ, Nat.add_zero] at e0 e1 e2 e3 e4
      have HF := Lib.hid hf
      have HM := Lib.hid hm
      have hlti : (k : Int) < (nf : Int) := by omega
      have hbr : b < wr.heap.size := by omega
      rw [hm] at hdr
      have HDR := Lib.hid hdr
      have HROW := Lib.hid (show wr.ownsRow (w.heap.size + 3) 93 5 (.slice FK k fk) k (frL (s.fr.take k) ds) by have := HC.out.fr.row; rwa [HLK.out] at this)
      clear hcc hcell hdr hf hd hm hdc
      have HW1 := Lib.hid (fun (A5 : Option Addr) (c5 : Nat) (w5 : World) (hb5 : Below (wr.alloc (.cells (frC f (.slice D m dc)).toArray 93)).heap.size (wr.alloc (.cells (frC f (.slice D m dc)).toArray 93)) w5) => show Below wr.heap.size wr ((w5.setCell ⟨wr.heap.size, 4, none⟩ (.slice A5 m c5)).alloc (.cells (frC f (.slice A5 m c5)).toArray 93)) from ((sq (al _) hb5).setCell (p := ⟨wr.heap.size, 4, none⟩) (Nat.le_refl _) _).alloc (by have := hb5.size; simp at this ⊢; omega) _)
      go_wp2_with (first
        | (at_builtin; refine wpList_append_new _ rfl _ _ 31 rfl 3 i0 _ 1 8 Try.underlying31 hi iz0 iz1 iz2 rfl (by omega) rfl w.heap.size D m dc (f.ds.map (Value.int .i64)) rfl (HDR.out.below (HC.out.bel.alloc (by omega) _)) (ints_oneCell _ _) (by omega) (by unfold maxLen; omega) ?_; intro A5 c5 w5 hown5 hb5; have fx5 := (hb5.block wr.heap.size (by simp)).trans (heap_alloc_new wr _); have tx5 := ((sq (al _) hb5).block (w.heap.size + 1 + 1) hz).trans HC.out.ht; have t50 : w5.cell? ⟨w.heap.size + 1 + 1, 0, none⟩ = some (.slice FK k fk) := (by rw [Lib.cell_of_heap tx5]; rfl); have z54 := Lib.frozen_of_heap fx5 4; have f50 : w5.cell? ⟨wr.heap.size, 0, none⟩ = some (.int .i64 f.id) := (by rw [Lib.cell_of_heap fx5]; rfl); have f51 : w5.cell? ⟨wr.heap.size, 1, none⟩ = some (.int .i64 f.mark) := (by rw [Lib.cell_of_heap fx5]; rfl); have f52 : w5.cell? ⟨wr.heap.size, 2, none⟩ = some (.int .i64 f.pan) := (by rw [Lib.cell_of_heap fx5]; rfl); have f53 : w5.cell? ⟨wr.heap.size, 3, none⟩ = some (.int .i64 f.ph) := (by rw [Lib.cell_of_heap fx5]; rfl); have f54 : w5.cell? ⟨wr.heap.size, 4, none⟩ = some (.slice D m dc) := (by rw [Lib.cell_of_heap fx5]; rfl); have hgb : w.heap.size + 1 + 1 ≠ wr.heap.size := (by omega))
        | (at_builtin; refine wpList_append_rd _ rfl _ _ 53 rfl (w.heap.size + 3) 93 j0 _ 5 56 Try.underlying53 hj jz0 jz1 jz2 rfl (by omega) (.slice FK k fk) k (frL (s.fr.take k) ds) rfl (own_below HROW.out (HW1.out A5 c5 w5 hb5)) _ _ 1 1 (frC f (.slice A5 m c5)) rfl (Rd.one _ _ _ 5 rfl _ (by simp)) (by intro u hu; simp [frC] at hu; rcases hu with rfl | rfl | rfl | rfl | rfl <;> rfl) (by unfold maxLen; omega) (by omega) (Nat.le_trans (show w.heap.size + 3 ≤ wr.heap.size from hz) (HW1.out A5 c5 w5 hb5).size) ?_; intro A6 c6 w6 hown6 hgrow6 _; have tx6 := ((hgrow6.block (w.heap.size + 1 + 1) (Nat.lt_of_lt_of_le hz (HW1.out A5 c5 w5 hb5).size) (fun e => by have := (HROW.out.lt _ e.symm).1; omega)).trans ((HW1.out A5 c5 w5 hb5).block _ hz)).trans HC.out.ht; have z60 := Lib.frozen_of_heap tx6 0; have c60 : w6.cell? ⟨w.heap.size + 1 + 1, 0, none⟩ = some (.slice FK k fk) := (by rw [Lib.cell_of_heap tx6]; rfl))
        | fail "no")
      have HNW := Lib.hid (HC.out.frame (f := f) (d := .slice A5 m c5) (HW1.out A5 c5 w5 hb5) HLK.out HM.out hown6 hgrow6 (own_below (own_base (ownsRow_setCell_below hown5 (a := ⟨wr.heap.size, 4, none⟩) (by simp) (.slice A5 m c5)) (by simp)) (al _)))
      clear hown5 hb5 hown6 hgrow6 fx5 tx5 tx6
      go_roundw
      case rel =>
        refine ⟨k + 1, .slice A6 (k + 1) c6, ds ++ [.slice A5 m c5], by omega, by go_num, Lib.hid ?_⟩
        rw [List.take_add_one, HF.out]
        exact HNW.out
      case measure => simp [intOf]; omega
    · obtain rfl : k = nf := by omega
      rw [List.take_of_length_le (by rw [HNF.out]; exact Nat.le_refl _)] at HC
      have g1 : wr.cell? ⟨w.heap.size, 1, none⟩ = some (.slice PA np pc) := by rw [Lib.cell_of_heap HC.out.hs]; rfl
      clear HLK hz
      have hz := HC.out.gz
      have HC0 := Lib.hid (show CP w w.heap.size (.slice FA k fc) (.slice PA np pc) s s.fr (s.pn.take 0) (.slice FK k fk) (.slice none 0 0) ds wr from HC.out)
      go_wp2_with fail
      clear g1 HC hz
      go_loopw [32] (fun i wq => ∃ (j : Nat) (pv : Value), j ≤ np ∧ i = .int .i64 (j : Int) ∧ Hid (CP w w.heap.size (.slice FA k fc) (.slice PA np pc) s s.fr (s.pn.take j) (.slice FK k fk) pv ds wq)) (fun i _ => np - (intOf i).toNat)
      case atStart => exact ⟨0, _, Nat.zero_le _, rfl, HC0⟩
      case round =>
        obtain ⟨j, pv, hjn, rfl, HC⟩ := hrel
        obtain ⟨PK, pk, rfl⟩ := own_form HC.out.pn
        have hlj : (s.pn.take j).length = j := by rw [List.length_take, HNP.out]; omega
        rw [hlj] at HC
        have HLJ := Lib.hid hlj
        have hz := HC.out.gz
        clear hlj
        by_cases hlt : j < np
        · obtain ⟨x, hx⟩ : ∃ x, s.pn[j]? = some x := ⟨_, List.getElem?_eq_getElem (by rw [HNP.out]; exact hlt)⟩
          obtain ⟨b, off, rfl, hb, hcell⟩ := HPN.out.2 (by rw [HNP.out]; omega)
          have hcc : ∀ i, i < 7 → wr.cell? ⟨b, off + j * 7 + i, none⟩ = (pnC x)[i]? := fun i hi => by
            have h1 : (pnL s.pn)[j * 7 + i]? = (pnC x)[i]? := pnL_get hx hi
            have hi2 : i < (pnC x).length := hi
            rw [List.getElem?_eq_getElem hi2] at h1 ⊢
            have := hcell (j * 7 + i) _ h1
            rw [← Nat.add_assoc] at this
            exact (HC.out.bel.cell (p := ⟨b, _, none⟩) hb).trans this
          have e0 := hcc 0 (by omega)
          have e1 := hcc 1 (by omega)
          have e2 := hcc 2 (by omega)
          have e3 := hcc 3 (by omega)
          have e4 := hcc 4 (by omega)
          have e5 := hcc 5 (by omega)
          have e6 := hcc 6 (by omega)
          simp only [pnC, List.getElem?_cons_zero, List.getElem?_cons_succ, Nat.add_zero] at e0 e1 e2 e3 e4 e5 e6
          have HX := Lib.hid hx
          have HXK := Lib.hid (HOK.out x (List.mem_of_getElem? hx))
          have hlti : (j : Int) < (np : Int) := by omega
          have hbr : b < wr.heap.size := by omega
          have HROW := Lib.hid (show wr.ownsRow (w.heap.size + 3) 99 7 (.slice PK j pk) j (pnL (s.pn.take j)) by have := HC.out.pn; rwa [HLJ.out] at this)
          clear hcc hcell hx
          go_wp2_with fail
          refine Calls.mono (refPlain_may x.k x.n x.s none 0 0 _ HXK.out.1) ?_
          rintro e w5 ⟨rfl, hb5⟩
          have fx5 := (hb5.block wr.heap.size (by simp)).trans (heap_alloc_new wr _)
          have HB5 := Lib.hid (sq (al _) hb5)
          have tx5 := (HB5.out.block (w.heap.size + 1 + 1) hz).trans HC.out.ht
          have t51 : w5.cell? ⟨w.heap.size + 1 + 1, 1, none⟩ = some (.slice PK j pk) := by rw [Lib.cell_of_heap tx5]; rfl
          have f0 : w5.cell? ⟨wr.heap.size, 0, none⟩ = some (.int .i64 x.ser) := by rw [Lib.cell_of_heap fx5]; rfl
          have f1 : w5.cell? ⟨wr.heap.size, 1, none⟩ = some (.int .i64 x.k) := by rw [Lib.cell_of_heap fx5]; rfl
          have f2 : w5.cell? ⟨wr.heap.size, 2, none⟩ = some (.int .i64 x.n) := by rw [Lib.cell_of_heap fx5]; rfl
          have f3 : w5.cell? ⟨wr.heap.size, 3, none⟩ = some (.string x.s) := by rw [Lib.cell_of_heap fx5]; rfl
          have f4 : w5.cell? ⟨wr.heap.size, 4, none⟩ = some (.slice none 0 0) := by rw [Lib.cell_of_heap fx5]; rfl
          have f5 : w5.cell? ⟨wr.heap.size, 5, none⟩ = some (.bool x.rcv) := by rw [Lib.cell_of_heap fx5]; rfl
          have f6 : w5.cell? ⟨wr.heap.size, 6, none⟩ = some (.bool x.ab) := by rw [Lib.cell_of_heap fx5]; rfl
          have z1 := Lib.frozen_of_heap fx5 1
          have z2 := Lib.frozen_of_heap fx5 2
          have z3 := Lib.frozen_of_heap fx5 3
          have z4 := Lib.frozen_of_heap fx5 4
          have hgb : w.heap.size + 1 + 1 ≠ wr.heap.size := by omega
          rw [← HXK.out.2.1, ← HXK.out.2.2]
          clear hb5 fx5 tx5 e0 e1 e2 e3 e4 e5 e6
          have HWB := Lib.hid (show Below wr.heap.size wr (((((w5.setCell ⟨wr.heap.size, 1, none⟩ (.int .i64 x.k)).setCell ⟨wr.heap.size, 2, none⟩ (.int .i64 x.n)).setCell ⟨wr.heap.size, 3, none⟩ (.string x.s)).setCell ⟨wr.heap.size, 4, none⟩ (.slice none 0 0)).alloc (.cells (pnC x).toArray 99)) from ((((HB5.out.setCell (p := ⟨wr.heap.size, 1, none⟩) (Nat.le_refl _) _).setCell (p := ⟨wr.heap.size, 2, none⟩) (Nat.le_refl _) _).setCell (p := ⟨wr.heap.size, 3, none⟩) (Nat.le_refl _) _).setCell (p := ⟨wr.heap.size, 4, none⟩) (Nat.le_refl _) _).alloc (by have := HB5.out.size; simp; omega) _)
          go_wp2_with (first
            | (at_builtin; refine wpList_append_rd _ rfl _ _ 54 rfl (w.heap.size + 3) 99 p0 _ 7 72 Try.underlying54 hp pz0 pz1 pz2 rfl (by omega) (.slice PK j pk) j (pnL (s.pn.take j)) rfl (own_below HROW.out HWB.out) _ _ 1 1 (pnC x) rfl (Rd.one _ _ _ 7 rfl _ (by simp)) (by intro u hu; simp [pnC] at hu; rcases hu with rfl | rfl | rfl | rfl | rfl | rfl | rfl <;> rfl) (by unfold maxLen; omega) (by omega) (Nat.le_trans (show w.heap.size + 3 ≤ wr.heap.size from hz) HWB.out.size) ?_; intro A6 c6 w6 hown6 hgrow6 _; have tx6 := ((hgrow6.block (w.heap.size + 1 + 1) (Nat.lt_of_lt_of_le hz HWB.out.size) (fun e => by have := (HROW.out.lt _ e.symm).1; omega)).trans (HWB.out.block _ hz)).trans HC.out.ht; have z60 := Lib.frozen_of_heap tx6 1; have c60 : w6.cell? ⟨w.heap.size + 1 + 1, 1, none⟩ = some (.slice PK j pk) := (by rw [Lib.cell_of_heap tx6]; rfl))
            | fail "no")
          have HNW := Lib.hid (HC.out.pan (p := x) HWB.out HLJ.out hown6 hgrow6)
          clear hown6 hgrow6 tx6
          go_roundw
          case rel =>
            refine ⟨j + 1, .slice A6 (j + 1) c6, by omega, by go_num, Lib.hid ?_⟩
            rw [List.take_add_one, HX.out]
            exact HNW.out
          case measure => simp [intOf]; omega
        · obtain rfl : j = np := by omega
          rw [List.take_of_length_le (by rw [HNP.out]; exact Nat.le_refl _)] at HC
          have HR := Lib.hid HC.out.hr
          have r0 : wr.cell? ⟨w.heap.size + 1, 0, none⟩ = some (.slice none 0 0) := by rw [Lib.cell_of_heap HR.out]; rfl
          have r1 : wr.cell? ⟨w.heap.size + 1, 1, none⟩ = some (.slice none 0 0) := by rw [Lib.cell_of_heap HR.out]; rfl
          have r2 : wr.cell? ⟨w.heap.size + 1, 2, none⟩ = some (.int .i64 0) := by rw [Lib.cell_of_heap HR.out]; rfl
          have r3 : wr.cell? ⟨w.heap.size + 1, 3, none⟩ = some (.int .i64 0) := by rw [Lib.cell_of_heap HR.out]; rfl
          have r4 : wr.cell? ⟨w.heap.size + 1, 4, none⟩ = some (.int .i64 0) := by rw [Lib.cell_of_heap HR.out]; rfl
          have r5 : wr.cell? ⟨w.heap.size + 1, 5, none⟩ = some (.int .i64 0) := by rw [Lib.cell_of_heap HR.out]; rfl
          have q0 : wr.cell? ⟨w.heap.size + 1 + 1, 0, none⟩ = some (.slice FK k fk) := by rw [Lib.cell_of_heap HC.out.ht]; rfl
          have q1 : wr.cell? ⟨w.heap.size + 1 + 1, 1, none⟩ = some (.slice PK j pk) := by rw [Lib.cell_of_heap HC.out.ht]; rfl
          have q2 : wr.cell? ⟨w.heap.size + 1 + 1, 2, none⟩ = some (.int .i64 (s.next : Int)) := by rw [Lib.cell_of_heap HC.out.ht]; rfl
          have q3 : wr.cell? ⟨w.heap.size + 1 + 1, 3, none⟩ = some (.int .i64 (s.ser : Int)) := by rw [Lib.cell_of_heap HC.out.ht]; rfl
          have q4 : wr.cell? ⟨w.heap.size + 1 + 1, 4, none⟩ = some (.int .i64 s.en) := by rw [Lib.cell_of_heap HC.out.ht]; rfl
          have q5 : wr.cell? ⟨w.heap.size + 1 + 1, 5, none⟩ = some (.int .i64 s.st) := by rw [Lib.cell_of_heap HC.out.ht]; rfl
          have y0 := Lib.frozen_of_heap HR.out 0
          have y1 := Lib.frozen_of_heap HR.out 1
          have y2 := Lib.frozen_of_heap HR.out 2
          have y3 := Lib.frozen_of_heap HR.out 3
          have y4 := Lib.frozen_of_heap HR.out 4
          have y5 := Lib.frozen_of_heap HR.out 5
          go_wp2_with fail
          obtain ⟨w7, hw7, b7, k7, l7, s7⟩ := six_at (w := wr) (g := w.heap.size + 1) (.slice FK k fk) (.slice PK j pk) (.int .i64 (s.next : Int)) (.int .i64 (s.ser : Int)) (.int .i64 s.en) (.int .i64 s.st) HR.out
          rw [← hw7]
          have HB7 := Lib.hid (l7 w.heap.size (Nat.le_succ _) w HC.out.bel)
          have HF7 := Lib.hid (show FrO w7 w.heap.size (.slice FK k fk) s.fr ds from (HC.out.fr.stay fun b cs t hb ht => k7 b (fun e => by
            rw [e, HR.out] at hb
            injection hb with hb
            injection hb with _ hb
            subst hb
            rcases ht with ht | ht <;> exact absurd ht (by decide))).base_to (by omega))
          have HP7 := Lib.hid (own_base (own_stay (w' := w7) HC.out.pn fun b hb => k7 b (fun e => by have := (HC.out.pn.lt b hb).1; omega)) (by omega : w.heap.size ≤ w.heap.size + 3))
          clear r0 r1 r2 r3 r4 r5 q0 q1 q2 q3 q4 q5 y0 y1 y2 y3 y4 y5 hw7 k7 l7 s7
          have r0 : w7.cell? ⟨w.heap.size + 1, 0, none⟩ = some (.slice FK k fk) := by rw [Lib.cell_of_heap b7]; rfl
          have r1 : w7.cell? ⟨w.heap.size + 1, 1, none⟩ = some (.slice PK j pk) := by rw [Lib.cell_of_heap b7]; rfl
          have r2 : w7.cell? ⟨w.heap.size + 1, 2, none⟩ = some (.int .i64 (s.next : Int)) := by rw [Lib.cell_of_heap b7]; rfl
          have r3 : w7.cell? ⟨w.heap.size + 1, 3, none⟩ = some (.int .i64 (s.ser : Int)) := by rw [Lib.cell_of_heap b7]; rfl
          have r4 : w7.cell? ⟨w.heap.size + 1, 4, none⟩ = some (.int .i64 s.en) := by rw [Lib.cell_of_heap b7]; rfl
          have r5 : w7.cell? ⟨w.heap.size + 1, 5, none⟩ = some (.int .i64 s.st) := by rw [Lib.cell_of_heap b7]; rfl
          clear b7
          refine bodyPost_ret (v := stV (.slice FK k fk) (.slice PK j pk) s) (by simp [results, Try.results21, go_sem, r0, r1, r2, r3, r4, r5]) rfl ?_
          refine ⟨_, _, ds, rfl, HF7.out, ?_, HB7.out⟩
          have h7 := HP7.out
          rw [HNP.out] at h7
          exact h7
end Go.Proofs.Ytapofohbngkekaa
