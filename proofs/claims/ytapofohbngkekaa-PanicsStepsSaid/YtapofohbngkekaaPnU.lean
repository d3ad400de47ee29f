/- The player's 'start'. Conditions: bounds; there is a deferred call. -/
import Derived.Test.YtapofohbngkekaaPnT
import Derived.StillTailTactics
set_option maxRecDepth 100000
namespace Go.Proofs.Ytapofohbngkekaa
open Go.ChangeShapes Go.WideShapes Go.ChangeAt Go.RowKit
/-- The last panic's cells. -/
structure LastC (w : World) (Q k : Nat) (p : PN) : Prop where
  c0 : w.cell? ⟨Q, k * 7, none⟩ = some (.int .i64 p.ser)
  c1 : w.cell? ⟨Q, k * 7 + 1, none⟩ = some (.int .i64 p.k)
  c2 : w.cell? ⟨Q, k * 7 + 2, none⟩ = some (.int .i64 p.n)
  c3 : w.cell? ⟨Q, k * 7 + 3, none⟩ = some (.string p.s)
  c4 : w.cell? ⟨Q, k * 7 + 4, none⟩ = some (.slice none 0 0)
  c5 : w.cell? ⟨Q, k * 7 + 5, none⟩ = some (.bool p.rcv)
  c6 : w.cell? ⟨Q, k * 7 + 6, none⟩ = some (.bool p.ab)
  z : ∀ j, w.frozen? ⟨Q, j, none⟩ = false
theorem LastC.below {w w' : World} {Q k : Nat} {p : PN} (h : LastC w Q k p) (hb : Below w.heap.size w w') (hF : Q < w.heap.size) : LastC w' Q k p :=
  ⟨(hb.cell (p := ⟨Q, _, none⟩) hF).trans h.c0, (hb.cell (p := ⟨Q, _, none⟩) hF).trans h.c1, (hb.cell (p := ⟨Q, _, none⟩) hF).trans h.c2, (hb.cell (p := ⟨Q, _, none⟩) hF).trans h.c3, (hb.cell (p := ⟨Q, _, none⟩) hF).trans h.c4, (hb.cell (p := ⟨Q, _, none⟩) hF).trans h.c5, (hb.cell (p := ⟨Q, _, none⟩) hF).trans h.c6, fun j => (hb.frozen (p := ⟨Q, j, none⟩) hF).trans (h.z j)⟩
theorem pn_last {w : World} {base : Nat} {pv : Value} {l : List PN} {p : PN} (h : w.ownsRow base 99 7 pv (l ++ [p]).length (pnL (l ++ [p]))) :
    ∃ Q c, pv = .slice (some ⟨Q, 0, none⟩) (l.length + 1) c ∧ base ≤ Q ∧ Q < w.heap.size ∧ l.length + 1 ≤ c ∧ c ≤ maxLen ∧ LastC w Q l.length p := by
  simp only [List.length_append, List.length_cons, List.length_nil, Nat.zero_add] at h
  obtain ⟨Q, c, rfl, hF, hz, h1, h2⟩ := own_formF h (by omega)
  have hc : ∀ j, j < 7 → w.cell? ⟨Q, l.length * 7 + j, none⟩ = (pnC p)[j]? := fun j hj => by
    rw [← pnL_at l p j]
    exact h.cellAt _ (by omega)
  exact ⟨Q, c, rfl, hF, hz, h1, h2, hc 0 (by omega), hc 1 (by omega), hc 2 (by omega), hc 3 (by omega), hc 4 (by omega), hc 5 (by omega), hc 6 (by omega), fun j => h.frozenAt j⟩
theorem TopC.below {w w' : World} {F k : Nat} {f : FR} {d : Value} (h : TopC w F k f d) (hb : Below w.heap.size w w') (hF : F < w.heap.size) : TopC w' F k f d :=
  ⟨(hb.cell (p := ⟨F, _, none⟩) hF).trans h.c0, (hb.cell (p := ⟨F, _, none⟩) hF).trans h.c1, (hb.cell (p := ⟨F, _, none⟩) hF).trans h.c2, (hb.cell (p := ⟨F, _, none⟩) hF).trans h.c3, (hb.cell (p := ⟨F, _, none⟩) hF).trans h.c4, fun j => (hb.frozen (p := ⟨F, j, none⟩) hF).trans (h.z j)⟩
theorem frL_mid {l : List FR} {es : List Value} (h : es.length = l.length) (f g : FR) (d d' : Value) (j : Nat) (hj : j < 5) : (frL (l ++ [f] ++ [g]) (es ++ [d] ++ [d']))[l.length * 5 + j]? = (frC f d)[j]? := by
  rw [frL_snoc (by simp [h]), List.getElem?_append_left (by rw [frL_len (by simp [h])]; simp; omega)]
  exact frL_at h f d j
theorem frL_cons (f : FR) (l : List FR) (d : Value) (ds : List Value) : frL (f :: l) (d :: ds) = frC f d ++ frL l ds := by simp [frL]
theorem frL_set4 {f : FR} {x : List Int} {v : Value} : ∀ {l : List FR} {ds : List Value} {i : Nat}, l[i]? = some f → ds.length = l.length → (frL l ds).set (i * 5 + 4) v = frL (l.set i (dsF f x)) (ds.set i v)
  | [], _, i, h, _ => by simp at h
  | g :: l, [], i, h, h' => by simp at h'
  | g :: l, d :: ds, 0, h, h' => by
    simp at h
    subst h
    simp only [frL_cons, List.set_cons_zero, Nat.zero_mul, Nat.zero_add]
    rfl
  | g :: l, d :: ds, i + 1, h, h' => by
    simp only [List.set_cons_succ, frL_cons]
    have e : (i + 1) * 5 + 4 = (frC g d).length + (i * 5 + 4) := by simp [frC]; omega
    rw [e, List.set_append_right _ _ (by omega), Nat.add_sub_cancel_left, frL_set4 (x := x) (l := l) (ds := ds) (i := i) (by simpa using h) (by simpa using h')]
theorem frL_set3 {f : FR} {x : Int} : ∀ {l : List FR} {ds : List Value} {i : Nat}, l[i]? = some f → ds.length = l.length → (frL l ds).set (i * 5 + 3) (.int .i64 x) = frL (l.set i (phF f x)) ds
  | [], _, i, h, _ => by simp at h
  | g :: l, [], i, h, h' => by simp at h'
  | g :: l, d :: ds, 0, h, h' => by
    simp at h
    subst h
    simp only [frL_cons, List.set_cons_zero, Nat.zero_mul, Nat.zero_add]
    rfl
  | g :: l, d :: ds, i + 1, h, h' => by
    simp only [List.set_cons_succ, frL_cons]
    have e : (i + 1) * 5 + 3 = (frC g d).length + (i * 5 + 3) := by simp [frC]; omega
    rw [e, List.set_append_right _ _ (by omega), Nat.add_sub_cancel_left, frL_set3 (x := x) (l := l) (ds := ds) (i := i) (by simpa using h) (by simpa using h')]
theorem set_mid {α : Type} (a : List α) (x y : α) (r : List α) : (a ++ x :: r).set a.length y = a ++ y :: r := by
  rw [List.set_append_right _ _ (Nat.le_refl _), Nat.sub_self]; rfl
/-- An activation's deferred calls are turned. -/
theorem FrO.setD {w : World} {base F n c i : Nat} {l : List FR} {ds : List Value} {f : FR} {d v : Value} {x : List Int} (h : FrO w base (.slice (some ⟨F, 0, none⟩) n c) l ds) (hi : l[i]? = some f) (_ : ds[i]? = some d) (hv : w.ownsRow base 3 1 v x.length (x.map (Value.int .i64)))
    (hb : ∀ b, v.ownBlock = some b → ∀ j d', j ≠ i → ds[j]? = some d' → d'.ownBlock ≠ some b) : FrO (w.setCell ⟨F, i * 5 + 4, none⟩ v) base (.slice (some ⟨F, 0, none⟩) n c) (l.set i (dsF f x)) (ds.set i v) := by
  have hn : n = l.length := by
    obtain ⟨A, c', e⟩ := own_form h.row
    injection e
  subst hn
  have hrow := h.row
  obtain ⟨cur, hF⟩ := own_ty (b := F) hrow rfl
  have hil := (List.getElem?_eq_some_iff.1 hi).1
  have hst := (hrow.stored (i * 5 + 4) v).1
  rw [frL_set4 (x := x) hi h.len] at hst
  refine ⟨by rw [List.length_set]; exact hst, by simp [h.len], fun j g e hj he => ?_, fun j k e e' b hj hk he he' => ?_⟩
  · rw [List.getElem?_set] at hj he
    by_cases hij : i = j
    · subst hij
      rw [if_pos rfl, if_pos hil] at hj
      rw [if_pos rfl, if_pos (by rw [h.len]; exact hil)] at he
      injection hj with hj
      injection he with he
      subst hj he
      exact own_setP hv hF (by decide)
    · rw [if_neg hij] at hj he
      exact own_setP (h.dr j g e hj he) hF (by decide)
  · rw [List.getElem?_set] at hj hk
    by_cases hij : i = j
    · subst hij
      rw [if_pos rfl, if_pos (by rw [h.len]; exact hil)] at hj
      injection hj with hj
      subst hj
      by_cases hik : i = k
      · exact hik
      · rw [if_neg hik] at hk
        exact absurd he' (hb b he k e' (fun e => hik e.symm) hk)
    · rw [if_neg hij] at hj
      by_cases hik : i = k
      · subst hik
        rw [if_pos rfl, if_pos (by rw [h.len]; exact hil)] at hk
        injection hk with hk
        subst hk
        exact absurd he (hb b he' j e (fun e => hij e.symm) hj)
      · rw [if_neg hik] at hk
        exact h.dis j k e e' b hj hk he he'
theorem FrO.setH {w : World} {base F n c i : Nat} {l : List FR} {ds : List Value} {f : FR} (h : FrO w base (.slice (some ⟨F, 0, none⟩) n c) l ds) (hi : l[i]? = some f) (x : Int) : FrO (w.setCell ⟨F, i * 5 + 3, none⟩ (.int .i64 x)) base (.slice (some ⟨F, 0, none⟩) n c) (l.set i (phF f x)) ds := by
  have hn : n = l.length := by
    obtain ⟨A, c', e⟩ := own_form h.row
    injection e
  subst hn
  have hrow := h.row
  obtain ⟨cur, hF⟩ := own_ty (b := F) hrow rfl
  have hil := (List.getElem?_eq_some_iff.1 hi).1
  have hst := (hrow.stored (i * 5 + 3) (.int .i64 x)).1
  rw [frL_set3 (x := x) hi h.len] at hst
  refine ⟨by rw [List.length_set]; exact hst, by simp [h.len], fun j g e hj he => ?_, h.dis⟩
  rw [List.getElem?_set] at hj
  by_cases hij : i = j
  · subst hij
    rw [if_pos rfl, if_pos hil] at hj
    injection hj with hj
    subst hj
    exact own_setP (h.dr i f e hi he) hF (by decide)
  · rw [if_neg hij] at hj
    exact own_setP (h.dr j g e hj he) hF (by decide)
/-- Only activations' row and rows of deferred calls are turned; the box stays. -/
theorem PLc.turned {w w' : World} {base P : Nat} {s : ST} {tl : List TL} {fv pv tv : Value} {ds ds' : List Value} {l : List FR} (h : PLc w base P s tl fv pv tv ds) (hk : KT 93 w w') (hfr : FrO w' base fv l ds') : PLc w' base P (stFr s l) tl fv pv tv ds' :=
  ⟨h.hP, h.boxK hk (by decide), hfr, own_stayT h.pn fun b cs t hb ht => hk b cs t hb (by subst ht; decide), own_stayT h.tl fun b cs t hb ht => hk b cs t hb (by subst ht; decide)⟩
/-- 'l[:k]' of numbers. -/
theorem ints_to (A : Option Addr) {n c k : Nat} (hk : k ≤ n) (hc : n ≤ c) (W : World) : (Instr.slice 31 (.slice A n c) none (some (.int .i64 (k : Int))) none).run Try.prog W = .ok (.slice A k c) W := by
  have hs : ∀ w, (sizeOf (Try.prog.elem 31)).run Try.prog w = .ok 1 w := fun w => by kernel_rfl
  rw [run_slice_h W 31 A n c Try.underlying31 .i64 (k : Int) (by omega) (by omega), hs]
  simp [Result.andThen, sliced]
  rcases A with _ | a
  · simp
  · simp [Addr.add]
section
variable {w : World} {base P F D n c k cd : Nat} {s : ST} {tl : List TL} {m p x : Int} {pv tv : Value} {fs : List FR} {f : FR} {es : List Value} {xs : List Int}
theorem PLc.restC (h : PLc w base P (pushS s m p) tl (.slice (some ⟨F, 0, none⟩) n c) pv tv (es ++ [.slice (some ⟨D, 0, none⟩) (k + 1) cd] ++ [.slice none 0 0])) (hf : s.fr = fs ++ [f]) (hel : es.length = fs.length) :
    w.cell? ⟨F, fs.length * 5 + 4, none⟩ = some (.slice (some ⟨D, 0, none⟩) (k + 1) cd) ∧ (∀ j, w.frozen? ⟨F, j, none⟩ = false) ∧ n = fs.length + 2 ∧ base ≤ F := by
  have hrow := h.fr.row
  have hn : n = fs.length + 2 := by
    obtain ⟨A, c', e⟩ := own_form hrow
    injection e with _ e
    rw [e]
    simp [pushS, hf]
  obtain ⟨cur, hF⟩ := own_ty (b := F) hrow rfl
  have hl : (pushS s m p).fr.length = fs.length + 2 := by simp [pushS, hf]
  rw [hl, hn] at hrow
  refine ⟨?_, fun j => hrow.frozenAt j, hn, (hrow.lt F rfl).1⟩
  rw [hrow.cellAt _ (by omega)]
  show (frL (s.fr ++ [_]) _)[_]? = _
  rw [hf, frL_mid hel f _ _ _ 4 (by omega)]
  rfl
theorem PLc.rest (h : PLc w base P (pushS s m p) tl (.slice (some ⟨F, 0, none⟩) n c) pv tv (es ++ [.slice (some ⟨D, 0, none⟩) (k + 1) cd] ++ [.slice none 0 0])) (hf : s.fr = fs ++ [f]) (hel : es.length = fs.length) (hxs : f.ds = xs ++ [x]) (hxl : xs.length = k) :
    PLc (w.setCell ⟨F, fs.length * 5 + 4, none⟩ (.slice (some ⟨D, 0, none⟩) k cd)) base P (pushS (stFr s (fs ++ [dsF f xs])) m p) tl (.slice (some ⟨F, 0, none⟩) n c) pv tv (es ++ [.slice (some ⟨D, 0, none⟩) k cd] ++ [.slice none 0 0]) := by
  obtain ⟨cur, hF⟩ := own_ty (b := F) h.fr.row rfl
  have hfr := h.fr
  have e1 : (pushS s m p).fr = fs ++ f :: [⟨s.next, m, p, 0, []⟩] := by simp [pushS, hf]
  rw [e1] at hfr
  rw [List.append_assoc] at hfr
  have hds : (es ++ ([.slice (some ⟨D, 0, none⟩) (k + 1) cd] ++ [.slice none 0 0]))[fs.length]? = some (Value.slice (some ⟨D, 0, none⟩) (k + 1) cd) := by rw [← hel]; simp
  have hi : (fs ++ f :: [(⟨s.next, m, p, 0, []⟩ : FR)])[fs.length]? = some f := by simp
  have hd := hfr.dr fs.length f _ hi hds
  have hlen : f.ds.length = k + 1 := by rw [hxs]; simp [hxl]
  rw [hlen, hxs, List.map_append] at hd
  have hv := ownsRow_pop (n := k) (by simp [hxl]) hd
  have hnew := hfr.setD (x := xs) (v := .slice (some ⟨D, 0, none⟩) k cd) hi hds (by rw [hxl]; exact hv) (fun b hb j d' hj hd' hb' => hj (hfr.dis j fs.length d' _ b hd' hds hb' hb))
  rw [set_mid, ← hel, List.singleton_append, set_mid] at hnew
  have hk : KT 93 w (w.setCell ⟨F, fs.length * 5 + 4, none⟩ (.slice (some ⟨D, 0, none⟩) k cd)) := KT.set hF _ _
  rw [hel] at hnew
  have := h.turned hk hnew
  simpa [pushS, stFr, dsF] using this
end
set_option maxHeartbeats 4000000 in
theorem start_any (base P : Nat) (s : ST) (tl : List TL) (fs : List FR) (f : FR) (w : World) (h : PL base P s tl w) (hf : s.fr = fs ++ [f]) (hd : ¬ f.ds.length = 0) (hp : f.ph = 2 → ¬ s.pn.length = 0) (hdn : f.ds.length ≤ 100000) (hpn : s.pn.length ≤ 100000) (hl : tl.length ≤ 1000000) (h30 : s.fr.length ≤ 30) (hn : s.next ≤ 1000000) :
    Calls Try.prog 88 #[.pointer (some ⟨P, 0, none⟩)] w fun e w' => e = .returned (.tuple #[]) ∧ (∃ r l, goStep s fs f = .fin r l ∧ PL base P r (tl ++ l) w') ∧ Below base w w' := by
  obtain ⟨fv, pv, tv, ds, hc⟩ := h
  have hfr := hc.fr
  rw [hf] at hfr
  obtain ⟨F, c, es, d, rfl, hel, rfl, hF, hFz, hcl, hcm, ht⟩ := hfr.top
  have HC := Lib.hid hc
  have HFR := Lib.hid hfr
  obtain ⟨k, hk⟩ : ∃ k, f.ds.length = k + 1 := ⟨f.ds.length - 1, by omega⟩
  obtain ⟨xs, x, hxs, hxl⟩ := snoc_of hk
  have hdr := hfr.dr fs.length f d (by simp) (by rw [← hel]; simp)
  rw [hk] at hdr
  obtain ⟨D, cd, rfl, hD, hDz, hkc, hkm⟩ := own_formF hdr (by omega)
  have hx : w.cell? ⟨D, k, none⟩ = some (.int .i64 x) := by
    rw [hdr.cellAt k (by omega), hxs, List.map_append, List.getElem?_append_right (by simp [hxl])]
    simp [hxl]
  have hsl := fun W => ints_to (some ⟨D, 0, none⟩) (n := k + 1) (c := cd) (k := k) (by omega) hkc W
  have c0 := hc.boxc.1
  have hb := hc.hP
  have HT := Lib.hid ht
  have hfl : fs.length ≤ 29 := by rw [hf] at h30; simp at h30; omega
  have HL := Lib.hid hl
  clear hfr hc ht hl
  by_cases hph : f.ph = 2
  · obtain ⟨ps, p, hps⟩ : ∃ ps p, s.pn = ps ++ [p] := by
      obtain ⟨m, x, e, _⟩ := snoc_of (l := s.pn) (n := s.pn.length - 1) (by have := hp hph; omega)
      exact ⟨m, x, e⟩
    obtain ⟨Q, cq, rfl, hQ, hQz, hqc, hqm, hlc⟩ := pn_last (p := p) (l := ps) (by rw [← hps]; exact HC.out.pn)
    have HPS := Lib.hid hps
    have hpl : ps.length ≤ 100000 := by rw [hps] at hpn; simp at hpn; omega
    have HLC := Lib.hid hlc
    have c1 := HC.out.boxc.2.1
    have HPH := Lib.hid hph
    have b1 : (f.ph == 2) = true := by simpa using hph
    have hPlt := (Array.getElem?_eq_some_iff.1 HC.out.box).1
    clear hph hps hlc hp
    go_enter Try.func88, Try.ntmps88
    go_wp2_with fail
    refine Calls.mono (top_any P F fs.length c w c0 (by rw [hf] at h30; simp at h30; omega)) ?_
    rintro e w1 ⟨rfl, hb1⟩
    obtain ⟨t0, t1, t2, t3, t4, tz⟩ := HT.out.below hb1 hFz
    have hx1 := (hb1.cell (p := ⟨D, k, none⟩) hDz).trans hx
    have c11 := (hb1.cell (p := ⟨P, 1, none⟩) hPlt).trans c1
    have HB1 := Lib.hid hb1
    clear hb1
    go_wp2_with fail
    go_region_law (first
      | (go_must (go_simp; (go_at_call 91); refine (last_some P Q ps.length cq _ (by exact c11) hpl).mono ?_; rintro e w2 ⟨rfl, hb2⟩; have hb2' : Below w.heap.size w w2 := (HB1.out.trans (Below.mono (show Below w1.heap.size w1 w2 from ⟨hb2.os, hb2.tape, hb2.output, hb2.size, hb2.block⟩) HB1.out.size)); have l0 := (HLC.out.below hb2' hQz).c0; have t4 := (HT.out.below hb2' hFz).c4))
      | fail "no")
    all_goals (
      have HB2 := Lib.hid hb2'
      clear hb2 hb2' l0 t0 t1 t2 t3 tz hx1 c11
      go_wp2_with fail
      refine Calls.mono (begin_any base P s tl 2 p.ser _ _ _ _ w2 (HC.out.below HB2.out) HL.out h30 hn) ?_
      rintro e w3 ⟨⟨h3, rfl, h3'⟩ | ⟨h3, rfl, fv3, h3'⟩, hb3⟩
      · have H3 := Lib.hid h3'
        have H33 := Lib.hid h3
        have HB3 := Lib.hid (((HB2.out.mono HC.out.base_le)).trans hb3)
        clear h3' hb3 h3
        go_wp2_with fail
        refine bodyPost_ret (results_none rfl _ _ _) rfl ?_
        refine ⟨rfl, ⟨_, _, ?_, H3.out⟩, HB3.out⟩
        unfold goStep
        rw [if_neg hd, if_pos H33.out]
      · have HB3 := Lib.hid (((HB2.out.mono HC.out.base_le)).trans hb3)
        have HP3 := Lib.hid h3'
        have hfv := h3'.fr.row
        have hl3 : (pushS s 2 p.ser).fr.length = fs.length + 2 := by simp [pushS, hf]
        rw [hl3] at hfv
        obtain ⟨F3, cc3, rfl, hF3, hFz3, hc3, hcm3⟩ := own_formF hfv (by omega)
        have d0 := h3'.boxc.1
        obtain ⟨d4, z3, _, _⟩ := h3'.restC hf hel
        have z4 := z3 (fs.length * 5 + 4)
        clear h3' hb3 hfv
        go_wp2_with fail
        have hwr : IntKind.i64.wrap (fs.length : Int) = (fs.length : Int) := IntWalk.i64_in _ (by omega)
        have hlt1 : (fs.length : Int) < (fs.length : Int) + 2 := by omega
        go_still_tail 15, (by kernel_rfl)
        change wpList _ _ _ _ _ w3.drew
        have HP4 := Lib.hid (HP3.out.below (Below.refl _ _).drew)
        have HB4 := Lib.hid (HB3.out.drew)
        generalize w3.drew = w4 at *
        clear HP3 HB3 d0 z3 z4 d4 hwr hlt1 hFz3
        obtain ⟨d4, z3, _, _⟩ := HP4.out.restC hf hel
        have z4 := z3 (fs.length * 5 + 4)
        go_wp2_with fail
        have HP5 := Lib.hid (HP4.out.rest hf hel hxs hxl)
        have HB5 := Lib.hid (HB4.out.setCell (p := ⟨F3, fs.length * 5 + 4, none⟩) hF3 (.slice (some ⟨D, 0, none⟩) k cd))
        clear HP4 HB4 d4 z4 z3
        generalize w4.setCell ⟨F3, fs.length * 5 + 4, none⟩ (.slice (some ⟨D, 0, none⟩) k cd) = w5 at *
        have hfr5 : FrO w5 base (.slice (some ⟨F3, 0, none⟩) (fs.length + 2) cc3) (fs ++ [dsF f xs] ++ [⟨s.next, 2, p.ser, 0, []⟩]) _ := HP5.out.fr
        have ht5 := hfr5.top
        obtain ⟨F5, cc5, es5, dd5, _, _, e5, _, hF5, _, _, ht5⟩ := ht5
        injection e5 with e5 _ e5'
        injection e5 with e5
        injection e5 with e5
        subst e5 e5'
        have HT5 := Lib.hid ht5
        clear ht5 hfr5
        refine Calls.mono (top_any P F3 (fs.length + 1) cc3 w5 HP5.out.boxc.1 (by omega)) ?_
        rintro e w6 ⟨rfl, hb6⟩
        have q0 : w6.cell? ⟨F3, (fs.length + 1) * 5, none⟩ = some (.int .i64 (s.next : Int)) := by
          have := (HT5.out.below hb6 hF5).c0
          simpa using this
        have HP6 := Lib.hid (HP5.out.below hb6)
        have HB6 := Lib.hid (HB5.out.trans (hb6.mono HP5.out.base_le))
        clear hb6
        go_wp2_with fail
        refine Calls.mono (tell_any base P _ tl (tl3 2 x s.next) w6 ⟨_, _, _, _, HP6.out⟩ HL.out HP6.out.base_le) ?_
        rintro e w7 ⟨rfl, h7, hb7⟩
        have H7 := Lib.hid h7
        have HB7 := Lib.hid (HB6.out.trans hb7)
        clear h7 hb7
        go_wp2_with fail
        first | go_end0 | refine bodyPost_ret (results_none rfl _ _ _) rfl ?_
        refine ⟨rfl, ⟨_, _, ?_, H7.out⟩, HB7.out⟩
        have e1 : f.ds.dropLast = xs := by rw [hxs]; simp
        have e2 : f.ds.getLastD 0 = x := by rw [hxs]; simp
        have e3 : lastSer s.pn = p.ser := by unfold lastSer; rw [HPS.out]; simp
        unfold goStep
        rw [if_neg hd, if_neg h3, e1, e2, if_pos HPH.out, if_pos HPH.out, e3])
  · have HPH := Lib.hid hph
    have b1 : (f.ph == 2) = false := by simpa using hph
    clear hph hp
    go_enter Try.func88, Try.ntmps88
    go_wp2_with fail
    refine Calls.mono (top_any P F fs.length c w c0 (by rw [hf] at h30; simp at h30; omega)) ?_
    rintro e w2 ⟨rfl, hb1⟩
    obtain ⟨t0, t1, t2, t3, t4, tz⟩ := HT.out.below hb1 hFz
    have hx1 := (hb1.cell (p := ⟨D, k, none⟩) hDz).trans hx
    have HB2 := Lib.hid hb1
    clear hb1
    go_wp2_with fail
    refine Calls.mono (begin_any base P s tl 1 (-1) _ _ _ _ w2 (HC.out.below HB2.out) HL.out h30 hn) ?_
    rintro e w3 ⟨⟨h3, rfl, h3'⟩ | ⟨h3, rfl, fv3, h3'⟩, hb3⟩
    · have H3 := Lib.hid h3'
      have H33 := Lib.hid h3
      have HB3 := Lib.hid (((HB2.out.mono HC.out.base_le)).trans hb3)
      clear h3' hb3 h3
      go_wp2_with fail
      refine bodyPost_ret (results_none rfl _ _ _) rfl ?_
      refine ⟨rfl, ⟨_, _, ?_, H3.out⟩, HB3.out⟩
      unfold goStep
      rw [if_neg hd, if_pos H33.out]
    · have HB3 := Lib.hid (((HB2.out.mono HC.out.base_le)).trans hb3)
      have HP3 := Lib.hid h3'
      have hfv := h3'.fr.row
      have hl3 : (pushS s 1 (-1)).fr.length = fs.length + 2 := by simp [pushS, hf]
      rw [hl3] at hfv
      obtain ⟨F3, cc3, rfl, hF3, hFz3, hc3, hcm3⟩ := own_formF hfv (by omega)
      have d0 := h3'.boxc.1
      obtain ⟨d4, z3, _, _⟩ := h3'.restC hf hel
      have z4 := z3 (fs.length * 5 + 4)
      clear h3' hb3 hfv
      go_wp2_with fail
      have hwr : IntKind.i64.wrap (fs.length : Int) = (fs.length : Int) := IntWalk.i64_in _ (by omega)
      have hlt1 : (fs.length : Int) < (fs.length : Int) + 2 := by omega
      go_still_tail 15, (by kernel_rfl)
      change wpList _ _ _ _ _ w3.drew
      have HP4 := Lib.hid (HP3.out.below (Below.refl _ _).drew)
      have HB4 := Lib.hid (HB3.out.drew)
      generalize w3.drew = w4 at *
      clear HP3 HB3 d0 z3 z4 d4 hwr hlt1 hFz3
      obtain ⟨d4, z3, _, _⟩ := HP4.out.restC hf hel
      have z4 := z3 (fs.length * 5 + 4)
      go_wp2_with fail
      have HP5 := Lib.hid (HP4.out.rest hf hel hxs hxl)
      have HB5 := Lib.hid (HB4.out.setCell (p := ⟨F3, fs.length * 5 + 4, none⟩) hF3 (.slice (some ⟨D, 0, none⟩) k cd))
      clear HP4 HB4 d4 z4 z3
      generalize w4.setCell ⟨F3, fs.length * 5 + 4, none⟩ (.slice (some ⟨D, 0, none⟩) k cd) = w5 at *
      have hfr5 : FrO w5 base (.slice (some ⟨F3, 0, none⟩) (fs.length + 2) cc3) (fs ++ [dsF f xs] ++ [⟨s.next, 1, -1, 0, []⟩]) _ := HP5.out.fr
      have ht5 := hfr5.top
      obtain ⟨F5, cc5, es5, dd5, _, _, e5, _, hF5, _, _, ht5⟩ := ht5
      injection e5 with e5 _ e5'
      injection e5 with e5
      injection e5 with e5
      subst e5 e5'
      have HT5 := Lib.hid ht5
      clear ht5 hfr5
      refine Calls.mono (top_any P F3 (fs.length + 1) cc3 w5 HP5.out.boxc.1 (by omega)) ?_
      rintro e w6 ⟨rfl, hb6⟩
      have q0 : w6.cell? ⟨F3, (fs.length + 1) * 5, none⟩ = some (.int .i64 (s.next : Int)) := by
        have := (HT5.out.below hb6 hF5).c0
        simpa using this
      have HP6 := Lib.hid (HP5.out.below hb6)
      have HB6 := Lib.hid (HB5.out.trans (hb6.mono HP5.out.base_le))
      clear hb6
      go_wp2_with fail
      refine Calls.mono (tell_any base P _ tl (tl3 2 x s.next) w6 ⟨_, _, _, _, HP6.out⟩ HL.out HP6.out.base_le) ?_
      rintro e w7 ⟨rfl, h7, hb7⟩
      have H7 := Lib.hid h7
      have HB7 := Lib.hid (HB6.out.trans hb7)
      clear h7 hb7
      go_wp2_with fail
      first | go_end0 | refine bodyPost_ret (results_none rfl _ _ _) rfl ?_
      refine ⟨rfl, ⟨_, _, ?_, H7.out⟩, HB7.out⟩
      have e1 : f.ds.dropLast = xs := by rw [hxs]; simp
      have e2 : f.ds.getLastD 0 = x := by rw [hxs]; simp
      unfold goStep
      rw [if_neg hd, if_neg h3, e1, e2, if_neg HPH.out, if_neg HPH.out]
end Go.Proofs.Ytapofohbngkekaa
