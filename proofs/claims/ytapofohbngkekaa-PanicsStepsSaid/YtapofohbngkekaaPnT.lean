/- The player's 'top', 'last', 'begin'. Conditions: bounds. -/
import Derived.Test.YtapofohbngkekaaPnW
set_option maxRecDepth 100000
namespace Go.Proofs.Ytapofohbngkekaa
open Go.ChangeShapes Go.WideShapes Go.ChangeAt Go.RowKit
theorem snoc_of {α : Type} {n : Nat} {l : List α} (h : l.length = n + 1) : ∃ m x, l = m ++ [x] ∧ m.length = n := by
  rcases l.eq_nil_or_concat with rfl | ⟨m, b, rfl⟩
  · cases h
  · rw [List.concat_eq_append] at h ⊢
    exact ⟨m, b, rfl, by simpa using h⟩
theorem own_formF {w : World} {base n size : Nat} {e : TypeId} {v : Value} {xs : List Value} (h : w.ownsRow base e size v n xs) (hn : 0 < n) : ∃ g c, v = .slice (some ⟨g, 0, none⟩) n c ∧ base ≤ g ∧ g < w.heap.size ∧ n ≤ c ∧ c ≤ maxLen := by
  rcases h.2 with ⟨_, h0⟩ | ⟨g, cap, cur, rfl, hg, hh, h1, h2, _⟩
  · omega
  · exact ⟨g, cap, rfl, hg, (Array.getElem?_eq_some_iff.1 hh).1, h1, h2⟩
theorem frL_at {fs : List FR} {es : List Value} (h : es.length = fs.length) (f : FR) (d : Value) (j : Nat) : (frL (fs ++ [f]) (es ++ [d]))[fs.length * 5 + j]? = (frC f d)[j]? := by
  rw [frL_snoc h, List.getElem?_append_right (by rw [frL_len h]; omega), frL_len h, show fs.length * 5 + j - fs.length * 5 = j by omega]
theorem pnL_at (l : List PN) (p : PN) (j : Nat) : (pnL (l ++ [p]))[l.length * 7 + j]? = (pnC p)[j]? := by
  rw [pnL_snoc, List.getElem?_append_right (by rw [pnL_len]; omega), pnL_len, show l.length * 7 + j - l.length * 7 = j by omega]
/-- The last activation's cells. -/
structure TopC (w : World) (F k : Nat) (f : FR) (d : Value) : Prop where
  c0 : w.cell? ⟨F, k * 5, none⟩ = some (.int .i64 f.id)
  c1 : w.cell? ⟨F, k * 5 + 1, none⟩ = some (.int .i64 f.mark)
  c2 : w.cell? ⟨F, k * 5 + 2, none⟩ = some (.int .i64 f.pan)
  c3 : w.cell? ⟨F, k * 5 + 3, none⟩ = some (.int .i64 f.ph)
  c4 : w.cell? ⟨F, k * 5 + 4, none⟩ = some d
  z : ∀ j, w.frozen? ⟨F, j, none⟩ = false
theorem FrO.top {w : World} {base : Nat} {fv : Value} {fs : List FR} {f : FR} {ds : List Value} (h : FrO w base fv (fs ++ [f]) ds) :
    ∃ F c es d, ds = es ++ [d] ∧ es.length = fs.length ∧ fv = .slice (some ⟨F, 0, none⟩) (fs.length + 1) c ∧ base ≤ F ∧ F < w.heap.size ∧ fs.length + 1 ≤ c ∧ c ≤ maxLen ∧ TopC w F fs.length f d := by
  obtain ⟨es, d, rfl, hl⟩ := snoc_of (n := fs.length) (by rw [h.len]; simp)
  have hr := h.row
  simp only [List.length_append, List.length_cons, List.length_nil, Nat.zero_add] at hr
  obtain ⟨F, c, rfl, hF, hz, h1, h2⟩ := own_formF hr (by omega)
  have hc : ∀ j, j < 5 → w.cell? ⟨F, fs.length * 5 + j, none⟩ = (frC f d)[j]? := fun j hj => by
    rw [← frL_at hl f d j]
    exact hr.cellAt _ (by omega)
  exact ⟨F, c, es, d, rfl, hl, rfl, hF, hz, h1, h2, hc 0 (by omega), hc 1 (by omega), hc 2 (by omega), hc 3 (by omega), hc 4 (by omega), fun j => hr.frozenAt j⟩
theorem PLc.boxc {w : World} {base P : Nat} {s : ST} {tl : List TL} {fv pv tv : Value} {ds : List Value} (h : PLc w base P s tl fv pv tv ds) :
    w.cell? ⟨P, 0, none⟩ = some fv ∧ w.cell? ⟨P, 1, none⟩ = some pv ∧ w.cell? ⟨P, 2, none⟩ = some (.int .i64 (s.next : Int)) ∧ w.cell? ⟨P, 3, none⟩ = some (.int .i64 (s.ser : Int)) ∧ w.cell? ⟨P, 4, none⟩ = some (.int .i64 s.en) ∧ w.cell? ⟨P, 5, none⟩ = some (.int .i64 s.st) ∧ w.cell? ⟨P, 6, none⟩ = some tv ∧ ∀ j, w.frozen? ⟨P, j, none⟩ = false := by
  have hb := h.box
  refine ⟨?_, ?_, ?_, ?_, ?_, ?_, ?_, fun j => Lib.frozen_of_heap hb j⟩ <;> (rw [Lib.cell_of_heap hb]; rfl)
set_option maxHeartbeats 2000000 in
theorem top_any (P F k c : Nat) (w : World) (hc : w.cell? ⟨P, 0, none⟩ = some (.slice (some ⟨F, 0, none⟩) (k + 1) c)) (hk : k ≤ 100000) :
    Calls Try.prog 67 #[.pointer (some ⟨P, 0, none⟩)] w fun e w' => e = .returned (.pointer (some ⟨F, k * 5, none⟩)) ∧ Below w.heap.size w w' := by
  go_enter Try.func67, Try.ntmps67
  go_wp2_with fail
  go_quiet (fail)
  go_wp2_with fail
  go_ret
  exact ⟨rfl, dr (Below.refl _ _) nq⟩
set_option maxHeartbeats 2000000 in
theorem last_none (P : Nat) (A : Option Addr) (c : Nat) (w : World) (hc : w.cell? ⟨P, 1, none⟩ = some (.slice A 0 c)) :
    Calls Try.prog 91 #[.pointer (some ⟨P, 0, none⟩)] w fun e w' => e = .returned (.pointer none) ∧ Below w.heap.size w w' := by
  go_enter Try.func91, Try.ntmps91
  go_wp2_with fail
  go_ret
  exact ⟨rfl, Below.refl _ _⟩
set_option maxHeartbeats 2000000 in
theorem last_some (P Q k c : Nat) (w : World) (hc : w.cell? ⟨P, 1, none⟩ = some (.slice (some ⟨Q, 0, none⟩) (k + 1) c)) (hk : k ≤ 100000) :
    Calls Try.prog 91 #[.pointer (some ⟨P, 0, none⟩)] w fun e w' => e = .returned (.pointer (some ⟨Q, k * 7, none⟩)) ∧ Below w.heap.size w w' := by
  have h1 : (((k : Int) + 1) == 0) = false := by simp; omega
  go_enter Try.func91, Try.ntmps91
  go_wp2_with fail
  go_quiet (fail)
  go_wp2_with fail
  go_ret
  exact ⟨rfl, dr (Below.refl _ _) nq⟩
theorem KT.grow {w0 w w' : World} {base n size : Nat} {e : TypeId} {v : Value} {xs : List Value} (h : w.ownsRow base e size v n xs) (hw : Below w.heap.size w w0) (hg : w0.grownBy w' v.ownBlock) : KT e w w' := fun b cs t' hb ht => by
  have hb0 := (Array.getElem?_eq_some_iff.1 hb).1
  refine (hg.block b (Nat.lt_of_lt_of_le hb0 hw.size) fun hv => ?_).trans (hw.block b hb0)
  obtain ⟨c, e1⟩ := own_ty h hv.symm
  rw [hb] at e1
  injection e1 with e1
  injection e1 with _ e1
  exact ht e1
/-- Where the rows of activations and of deferred calls stand as they stood. -/
theorem own_setP {w : World} {base n size P j : Nat} {e t : TypeId} {v u : Value} {xs : List Value} {cs : Array Value} {z : Nat × Nat} (h : w.ownsRow base e size v n xs) (hP : w.heap[P]? = some (.cells cs t z)) (ht : e ≠ t) : (w.setCell ⟨P, j, none⟩ u).ownsRow base e size v n xs :=
  own_stay h fun b hb => Below.heap_setCell _ _ _ _ fun e' => by
    have e' : b = P := e'
    obtain ⟨c, e1⟩ := own_ty h hb
    rw [e', hP] at e1
    injection e1 with e1
    injection e1 with _ e1
    exact ht e1.symm
theorem FrO.setP {w : World} {base P j : Nat} {t : TypeId} {fv u : Value} {l : List FR} {ds : List Value} {cs : Array Value} {z : Nat × Nat} (h : FrO w base fv l ds) (hP : w.heap[P]? = some (.cells cs t z)) (h1 : 93 ≠ t) (h2 : 3 ≠ t) : FrO (w.setCell ⟨P, j, none⟩ u) base fv l ds :=
  ⟨own_setP h.row hP h1, h.len, fun i f d hf hd => own_setP (h.dr i f d hf hd) hP h2, h.dis⟩
theorem FrO.push {w w0 w' : World} {base : Nat} {fv v' : Value} {l : List FR} {ds : List Value} {f : FR} (h : FrO w base fv l ds) (hw : Below w.heap.size w w0) (hown : w'.ownsRow base 93 5 v' (l.length + 1) (frL l ds ++ frC f (.slice none 0 0))) (hf : f.ds = []) (hg : w0.grownBy w' fv.ownBlock) : FrO w' base v' (l ++ [f]) (ds ++ [.slice none 0 0]) := by
  have hk := KT.grow h.row hw hg
  refine ⟨by rw [frL_snoc h.len]; simpa using hown, by simp [h.len], fun i g d hg hd => ?_, fun i j d d' b hi hj hb hb' => ?_⟩
  · by_cases hi : i < l.length
    · rw [List.getElem?_append_left hi] at hg
      rw [List.getElem?_append_left (by rw [h.len]; exact hi)] at hd
      exact own_stayT (h.dr i g d hg hd) fun b cs t hb ht => hk b cs t hb (by subst ht; decide)
    · have h1 := (List.getElem?_eq_some_iff.1 hg).1
      obtain rfl : i = l.length := by simp at h1; omega
      simp at hg
      subst hg
      rw [← h.len] at hd
      simp at hd
      subst hd
      rw [hf]
      exact World.ownsRow_nil _ _ _ _
  · have h1 : i < ds.length := by
      rcases Nat.lt_or_ge i ds.length with h1 | h1
      · exact h1
      · have h2 := (List.getElem?_eq_some_iff.1 hi).1
        obtain rfl : i = ds.length := by simp at h2; omega
        simp at hi
        subst hi
        cases hb
    have h1' : j < ds.length := by
      rcases Nat.lt_or_ge j ds.length with h1 | h1
      · exact h1
      · have h2 := (List.getElem?_eq_some_iff.1 hj).1
        obtain rfl : j = ds.length := by simp at h2; omega
        simp at hj
        subst hj
        cases hb'
    rw [List.getElem?_append_left h1] at hi
    rw [List.getElem?_append_left h1'] at hj
    exact h.dis i j d d' b hi hj hb hb'
/-- The box, where a block of another type than the player's was turned. -/
theorem PLc.boxK {w w' : World} {base P : Nat} {s : ST} {tl : List TL} {fv pv tv : Value} {ds : List Value} {t : TypeId} (h : PLc w base P s tl fv pv tv ds) (hk : KT t w w') (ht : 89 ≠ t) :
    w'.heap[P]? = some (.cells #[fv, pv, .int .i64 (s.next : Int), .int .i64 (s.ser : Int), .int .i64 s.en, .int .i64 s.st, tv] 89 (0, 0)) := (hk P _ _ h.box ht).trans h.box
theorem PLc.frames {w w' : World} {base P : Nat} {s : ST} {tl : List TL} {fv pv tv fv' : Value} {ds ds' : List Value} {l : List FR} (h : PLc w base P s tl fv pv tv ds) (hk : KT 93 w w') (hfr : FrO w' base fv' l ds') : PLc (w'.setCell ⟨P, 0, none⟩ fv') base P (stFr s l) tl fv' pv tv ds' := by
  have hx := h.boxK hk (by decide)
  exact ⟨h.hP, heap_setN hx _, hfr.setP hx (by decide) (by decide), own_setP (own_stayT h.pn fun b cs t hb ht => hk b cs t hb (by subst ht; decide)) hx (by decide), own_setP (own_stayT h.tl fun b cs t hb ht => hk b cs t hb (by subst ht; decide)) hx (by decide)⟩
set_option maxHeartbeats 4000000 in
theorem begin_any (base P : Nat) (s : ST) (tl : List TL) (m p : Int) (fv pv tv : Value) (ds : List Value) (w : World) (hc : PLc w base P s tl fv pv tv ds) (hl : tl.length ≤ 1000000) (h30 : s.fr.length ≤ 30) (hn : s.next ≤ 1000000) :
    Calls Try.prog 65 #[.pointer (some ⟨P, 0, none⟩), .int .i64 m, .int .i64 p] w fun e w' => ((30 ≤ s.fr.length ∧ e = .returned (.bool false) ∧ PL base P (overS s 6 0) (tl ++ [tl3 7 6 0]) w') ∨ (¬ 30 ≤ s.fr.length ∧ e = .returned (.bool true) ∧ ∃ fv', PLc w' base P (pushS s m p) tl fv' pv tv (ds ++ [.slice none 0 0]))) ∧ Below base w w' := by
  obtain ⟨j0, hj, jz0, jz1, jz2⟩ := info_parts info_frame
  have HC := Lib.hid hc
  obtain ⟨A, c, hv⟩ := own_form hc.fr.row
  subst hv
  obtain ⟨c0, c1, c2, c3, c4, c5, c6, z⟩ := hc.boxc
  have hb := hc.hP
  have z0 := z 0
  have z2 := z 2
  have HL := Lib.hid hl
  have hPlt := (Array.getElem?_eq_some_iff.1 hc.box).1
  clear hl hc c1 c3 c4 c5 c6 z
  generalize hn' : s.fr.length = n at *
  by_cases h3 : n = 30
  · have H3 := Lib.hid h3
    have b1 : ((n : Int) == 30) = true := by simp; omega
    clear h3
    go_enter Try.func65, Try.ntmps65
    go_wp2_with fail
    refine Calls.mono (over_any base P s tl 6 0 w ⟨_, _, _, _, HC.out⟩ HL.out) ?_
    rintro e w3 ⟨rfl, h3, hb3⟩
    have H4 := Lib.hid h3
    have HB3 := Lib.hid hb3
    clear h3 hb3
    go_wp2_with fail
    go_ret
    exact ⟨.inl ⟨by have := H3.out; omega, rfl, H4.out⟩, HB3.out⟩
  · have b1 : ((n : Int) == 30) = false := by simp; omega
    have H3 := Lib.hid h3
    clear h3
    have HN := Lib.hid hn'
    clear hn'
    go_enter Try.func65, Try.ntmps65
    go_wp2_with fail
    go_region_law (first
      | (go_must (refine step_append_flat rfl (.tmp 21) (.tmp 30) 53 rfl base 93 j0 _ 5 56 Try.underlying53 hj jz0 jz1 jz2 rfl (by omega) (.slice A n c) n (frL s.fr ds) rfl (own_below (by have := HC.out.fr.row; rwa [HN.out] at this) (by first | exact ((Below.refl _ _).drew).alloc (by simp) _ | exact (al _) | exact ((Below.refl _ _).alloc (by simp) _).drew)) _ _ 1 1 (frC ⟨s.next, m, p, 0, []⟩ (.slice none 0 0)) rfl (Rd.one _ _ _ 5 rfl _ (by simp)) (by intro u hu; simp [frC] at hu; rcases hu with rfl | rfl | rfl | rfl | rfl <;> rfl) (by unfold maxLen; omega) (by omega) (by have := HC.out.base_le; simp; omega) ?_; intro A5 c5 w5 hown5 hgrow5; have hk5 := KT.grow HC.out.fr.row (by first | exact ((Below.refl _ _).drew).alloc (by simp) _ | exact (al _) | exact ((Below.refl _ _).alloc (by simp) _).drew) hgrow5; have hx5 := HC.out.boxK hk5 (by decide); have z5 : w5.frozen? ⟨P, 0, none⟩ = false := Lib.frozen_of_heap hx5 0; have y5 : w5.frozen? ⟨P, 2, none⟩ = false := Lib.frozen_of_heap hx5 2; have c5' : w5.cell? ⟨P, 0, none⟩ = some (.slice A n c) := (by rw [Lib.cell_of_heap hx5]; rfl); have c5' : w5.cell? ⟨P, 2, none⟩ = some (.int .i64 (s.next : Int)) := (by rw [Lib.cell_of_heap hx5]; rfl)))
      | fail "no")
    all_goals (
      have hfr := HC.out.fr.push (f := ⟨s.next, m, p, 0, []⟩) (by first | exact ((Below.refl _ _).drew).alloc (by simp) _ | exact (al _) | exact ((Below.refl _ _).alloc (by simp) _).drew) (by rw [HN.out]; exact hown5) rfl hgrow5
      have hpl := HC.out.frames hk5 hfr
      have hpl2 := hpl.re (s' := pushS s m p) ((KT.set hpl.box 2 (.int .i64 ((s.next : Int) + 1)))) (heap_setN hpl.box _) rfl rfl
      have HPL := Lib.hid hpl2
      have HBW := Lib.hid (((((show Below w.heap.size w _ from (by first | exact ((Below.refl _ _).drew).alloc (by simp) _ | exact (al _) | exact ((Below.refl _ _).alloc (by simp) _).drew)).mono HC.out.base_le).grown hgrow5 (by have := HC.out.base_le; simp; omega) (fun q hq => (HC.out.fr.row.lt q hq).1)).setCell (p := ⟨P, 0, none⟩) hb (.slice A5 (n + 1) c5)).setCell (p := ⟨P, 2, none⟩) hb (.int .i64 ((s.next : Int) + 1)))
      clear hfr hpl hpl2 hown5 hgrow5 hk5 hx5
      go_wp2_with fail
      go_ret
      exact ⟨.inr ⟨by have := H3.out; omega, rfl, ⟨_, HPL.out⟩⟩, HBW.out⟩)
end Go.Proofs.Ytapofohbngkekaa
