/- The player's 'settle'. Conditions: what holds of all states that are come to. -/
import Derived.Test.YtapofohbngkekaaPnY
set_option maxRecDepth 100000
namespace Go.Proofs.Ytapofohbngkekaa
open Go.ChangeShapes Go.WideShapes Go.ChangeAt Go.RowKit
/-- 'l[:k]' of activations. -/
theorem FrO.pop {w : World} {base F c : Nat} {fs : List FR} {f : FR} {ds : List Value} (h : FrO w base (.slice (some ⟨F, 0, none⟩) (fs.length + 1) c) (fs ++ [f]) ds) : ∃ es d, ds = es ++ [d] ∧ FrO w base (.slice (some ⟨F, 0, none⟩) fs.length c) fs es := by
  obtain ⟨es, d, rfl, hl⟩ := snoc_of (n := fs.length) (by rw [h.len]; simp)
  have hr := h.row
  simp only [List.length_append, List.length_cons, List.length_nil, Nat.zero_add] at hr
  rw [frL_snoc hl] at hr
  refine ⟨es, d, rfl, ownsRow_pop (frL_len hl) hr, hl, fun i g e hg he => ?_, fun i j e e' b hi hj he he' => ?_⟩
  · have h1 := (List.getElem?_eq_some_iff.1 hg).1
    exact h.dr i g e (by rw [List.getElem?_append_left h1]; exact hg) (by rw [List.getElem?_append_left (by omega)]; exact he)
  · have h1 := (List.getElem?_eq_some_iff.1 hi).1
    have h2 := (List.getElem?_eq_some_iff.1 hj).1
    exact h.dis i j e e' b (by rw [List.getElem?_append_left h1]; exact hi) (by rw [List.getElem?_append_left h2]; exact hj) he he'
theorem PLc.popF {w : World} {base P F c k : Nat} {s : ST} {tl : List TL} {pv tv : Value} {ds : List Value} {fs : List FR} {f : FR} (h : PLc w base P s tl (.slice (some ⟨F, 0, none⟩) (k + 1) c) pv tv ds) (hs : s.fr = fs ++ [f]) (hk : fs.length = k) : PL base P (stFr s fs) tl (w.setCell ⟨P, 0, none⟩ (.slice (some ⟨F, 0, none⟩) k c)) := by
  subst hk
  have hfr := h.fr
  rw [hs] at hfr
  obtain ⟨es, d, rfl, h'⟩ := hfr.pop
  exact ⟨_, _, _, _, h.hP, heap_setN h.box _, h'.setP h.box (by decide) (by decide), own_setP h.pn h.box (by decide), own_setP h.tl h.box (by decide)⟩
theorem go_len {s r : ST} {fs : List FR} {f : FR} {l : List TL} (h : goStep s fs f = .go r l) : l.length ≤ 1 := by
  revert h
  unfold goStep
  repeat' split
  all_goals (intro e2; first | (injection e2 with _ e2; subst e2; simp; done) | (injection e2))
/-- How many activations the player has, off the memory. -/
def frAt (P : Nat) (w : World) : Nat := match w.cell? ⟨P, 0, none⟩ with | some (.slice _ n _) => n | _ => 0
theorem PL.frAt {base P : Nat} {s : ST} {tl : List TL} {w : World} (h : PL base P s tl w) : frAt P w = s.fr.length := by
  obtain ⟨fv, pv, tv, ds, hc⟩ := h
  obtain ⟨A, c, rfl⟩ := own_form hc.fr.row
  unfold Go.Proofs.Ytapofohbngkekaa.frAt
  rw [hc.boxc.1]
/-- How the player's settling goes on. -/
def SetI (base P : Nat) (s : ST) (tl : List TL) (a b : Nat) (wr : World) : Prop :=
  ∃ (s1 : ST) (t1 : List TL), (∀ r l, GoR s1 r l → GoR s r (t1 ++ l)) ∧ Gv s1 ∧ Bd a b s1 ∧ t1.length + s1.fr.length ≤ s.fr.length ∧ PL base P s1 (tl ++ t1) wr
set_option maxHeartbeats 8000000 in
theorem settle_any (base P a b : Nat) (s : ST) (tl : List TL) (w : World) (h : PL base P s tl w) (hg : Gv s) (hbd : Bd a b s) (ha : a ≤ 100000) (hb : b ≤ 100000) (hl : tl.length ≤ 900000) :
    Calls Try.prog 68 #[.pointer (some ⟨P, 0, none⟩)] w fun e w' => e = .returned (.tuple #[]) ∧ (∃ r l, GoR s r l ∧ PL base P r (tl ++ l) w') ∧ Below base w w' := by
  have HI := Lib.hid (show SetI base P s tl a b w from ⟨s, [], fun r l h => h, hg, hbd, by simp, by simpa using h⟩)
  have HS := Lib.hid hbd.fr
  have HB0 := Lib.hid (Below.refl base w)
  clear h hg hbd
  go_enter Try.func68, Try.ntmps68
  go_wp2_with fail
  go_loopw [] (fun wr => Hid (SetI base P s tl a b wr) ∧ Hid (Below base w wr)) (fun wr => frAt P wr)
  case atStart => exact ⟨HI, HB0⟩
  case round =>
    obtain ⟨HIR, HBR⟩ := hrel
    obtain ⟨s1, t1, hgo, hgv, hbd, hlen, hpl⟩ := HIR.out
    have HGO := Lib.hid hgo
    have HGV := Lib.hid hgv
    have HBD := Lib.hid hbd
    have HLN := Lib.hid hlen
    obtain ⟨fs, f, hf, htop⟩ := hgv.top
    have HF := Lib.hid hf
    have HTOP := Lib.hid htop
    have hen := hgv.uq.en
    obtain ⟨fv, pv, tv, ds, hc⟩ := hpl
    have hfr := hc.fr
    rw [hf] at hfr
    obtain ⟨F, c, es, d, rfl, hel, rfl, hF, hFz, hcl, hcm, ht⟩ := hfr.top
    have hdr := hfr.dr fs.length f d (by simp) (by rw [← hel]; simp)
    obtain ⟨A, cd, rfl⟩ := own_form hdr
    have HC := Lib.hid hc
    have HT := Lib.hid ht
    have d4 : wr.cell? ⟨P, 4, none⟩ = some (.int .i64 0) := by rw [hc.boxc.2.2.2.2.1, hen]
    have d0 := hc.boxc.1
    have hfl : fs.length ≤ 29 := by have := HBD.out.fr; rw [hf] at this; simp at this; omega
    have hPz := (Array.getElem?_eq_some_iff.1 hc.box).1
    clear hgo hgv hbd hlen hf htop hfr hdr ht hc hen hel HIR
    go_wp2_with fail
    refine Calls.mono (top_any P F fs.length c wr d0 (by omega)) ?_
    rintro e w1 ⟨rfl, hb1⟩
    obtain ⟨t0, t1', t2, t3, t4, tz⟩ := HT.out.below hb1 hFz
    have HC1 := Lib.hid (HC.out.below hb1)
    have HB1 := Lib.hid (HBR.out.trans (hb1.mono HC.out.base_le))
    clear hb1 tz d4 d0
    obtain ⟨n, hn⟩ : ∃ n, f.ds.length = n := ⟨_, rfl⟩
    rw [hn] at t4 HC1
    have HN := Lib.hid hn
    have hn2 : n ≤ 100000 := by have := (HBD.out.ds f (by rw [HF.out]; simp)).1; omega
    clear hn
    by_cases h0 : n = 0
    · subst h0
      have HPN := Lib.hid (fun (h : ∃ x r, SegR (x :: r) s1.pn) => show ¬ s1.pn.length = 0 from fun e => by
        obtain ⟨x, r, hs⟩ := h
        obtain ⟨p, hp, _⟩ := hs.last
        rw [List.eq_nil_of_length_eq_zero e] at hp
        cases hp)
      have hpn : s1.pn.length ≤ 100000 := Nat.le_trans HBD.out.pn hb
      have HTL := Lib.hid (show (tl ++ t1).length ≤ 1000000 - 10 by have := HLN.out; have := HS.out; simp; omega)
      have HMK := Lib.hid ((HBD.out.ds f (by rw [HF.out]; simp)).2)
      have hfl2 : fs.length ≤ 30 := by omega
      by_cases hph : f.ph = 2
      · have b1 : (f.ph == 1) = false := by rw [hph]; rfl
        have HPH := Lib.hid hph
        clear hph
        have HX2 := Lib.hid (heap_alloc_new w1 (.cells #[.int .i64 f.id, .int .i64 f.mark, .int .i64 f.pan, .int .i64 f.ph, .slice A 0 cd] 93))
        have HC2 := Lib.hid (HC1.out.below (al (.cells #[.int .i64 f.id, .int .i64 f.mark, .int .i64 f.pan, .int .i64 f.ph, .slice A 0 cd] 93)))
        have HB2 := Lib.hid (HB1.out.alloc HC1.out.base_le (.cells #[.int .i64 f.id, .int .i64 f.mark, .int .i64 f.pan, .int .i64 f.ph, .slice A 0 cd] 93))
        have HG2 := Lib.hid (show P ≠ w1.heap.size from fun e => by have := (Array.getElem?_eq_some_iff.1 HC1.out.box).1; omega)
        go_wp2_with fail
        clear t0 t1' t2 t3 t4
        clear HC1 HB1
        generalize hw2 : w1.alloc (.cells #[.int .i64 f.id, .int .i64 f.mark, .int .i64 f.pan, .int .i64 f.ph, .slice A 0 cd] 93) = w2 at *
        clear hw2
        generalize w1.heap.size = gb at *
        have d0 := HC2.out.boxc.1
        have z0 := HC2.out.boxc.2.2.2.2.2.2.2 0
        have hwr : IntKind.i64.wrap (fs.length : Int) = (fs.length : Int) := IntWalk.i64_in _ (by omega)
        have hkc' : (fs.length : Int) ≤ (c : Int) := by omega
        go_still_tail 17, (by kernel_rfl)
        change wpList _ _ _ _ _ w2.drew
        have HC3 := Lib.hid (HC2.out.below (Below.refl _ _).drew)
        have HB3 := Lib.hid (HB2.out.drew)
        have HX3 := Lib.hid (show w2.drew.heap[gb]? = _ from HX2.out)
        clear HC2 HB2 HX2 d0 z0
        generalize w2.drew = w3 at *
        have d0 := HC3.out.boxc.1
        have z0 := HC3.out.boxc.2.2.2.2.2.2.2 0
        have hbp := HC3.out.hP
        have HX4 := Lib.hid ((Below.heap_setCell w3 ⟨P, 0, none⟩ (.slice (some ⟨F, 0, none⟩) fs.length c) gb (fun e => HG2.out e.symm)).trans HX3.out)
        have f0 : (w3.setCell ⟨P, 0, none⟩ (.slice (some ⟨F, 0, none⟩) fs.length c)).cell? ⟨gb, 0, none⟩ = some (.int .i64 f.id) := by rw [Lib.cell_of_heap HX4.out]; rfl
        have f1 : (w3.setCell ⟨P, 0, none⟩ (.slice (some ⟨F, 0, none⟩) fs.length c)).cell? ⟨gb, 1, none⟩ = some (.int .i64 f.mark) := by rw [Lib.cell_of_heap HX4.out]; rfl
        have f2 : (w3.setCell ⟨P, 0, none⟩ (.slice (some ⟨F, 0, none⟩) fs.length c)).cell? ⟨gb, 2, none⟩ = some (.int .i64 f.pan) := by rw [Lib.cell_of_heap HX4.out]; rfl
        have f3 : (w3.setCell ⟨P, 0, none⟩ (.slice (some ⟨F, 0, none⟩) fs.length c)).cell? ⟨gb, 3, none⟩ = some (.int .i64 f.ph) := by rw [Lib.cell_of_heap HX4.out]; rfl
        have f4 : (w3.setCell ⟨P, 0, none⟩ (.slice (some ⟨F, 0, none⟩) fs.length c)).cell? ⟨gb, 4, none⟩ = some (.slice A 0 cd) := by rw [Lib.cell_of_heap HX4.out]; rfl
        go_wp2_with fail
        have HP4 := Lib.hid (HC3.out.popF HF.out rfl)
        have HB4 := Lib.hid (HB3.out.setCell (p := ⟨P, 0, none⟩) hbp (.slice (some ⟨F, 0, none⟩) fs.length c))
        have HMU := Lib.hid (PL.frAt ⟨_, _, _, _, HC.out⟩)
        refine Calls.mono (passed_any base P s1 (tl ++ t1) fs f (.slice A 0 cd) _ HP4.out HN.out HPH.out hpn HTL.out hfl2) ?_
        rintro e w5 ⟨⟨rfl, r, l, hr, hp5⟩ | ⟨rfl, r, l, hr, hp5⟩, hb5⟩
        · have HR := Lib.hid (HGO.out _ _ (.done HF.out hr))
          have HP5 := Lib.hid hp5
          have HB5 := Lib.hid (HB4.out.trans hb5)
          clear hr hp5 hb5
          go_wp2_with fail
          refine bodyPost_ret (results_none rfl _ _ _) rfl ?_
          exact ⟨rfl, ⟨_, _, HR.out, by rw [← List.append_assoc]; exact HP5.out⟩, HB5.out⟩
        · obtain ⟨k1, k2, k3⟩ := (go_keeps HBD.out HGV.out HF.out).2.1 _ _ hr
          have HK3 := Lib.hid k3
          have HST := Lib.hid (show SetI base P s tl a b w5 from ⟨r, t1 ++ l, fun r' l' h' => by rw [List.append_assoc]; exact HGO.out _ _ (.step HF.out hr h'), k2, k1, by
            have h1 := go_len hr
            have h2 := HLN.out
            simp only [List.length_append]
            omega, by rw [← List.append_assoc]; exact hp5⟩)
          have HFA := Lib.hid hp5.frAt
          have HB5 := Lib.hid (HB4.out.trans hb5)
          clear hr hp5 hb5 k1 k2 k3
          go_wp2_with fail
          go_roundw
          case rel => exact ⟨HST, HB5⟩
          case measure =>
            rw [HFA.out, HMU.out]
            exact HK3.out
      · have b1 : (f.ph == 1) = true := by
          rcases HTOP.out with ⟨h1, _⟩ | ⟨h1, _⟩
          · rw [h1]; rfl
          · exact absurd h1 hph
        have HPH := Lib.hid hph
        have HPP := Lib.hid (show f.mark = 2 → ¬ s1.pn.length = 0 from fun hm => HPN.out (by
          rcases HTOP.out with ⟨_, hs⟩ | ⟨h2, _⟩
          · rw [HF.out, rsers_snoc, if_pos hm] at hs
            exact ⟨_, _, hs⟩
          · exact absurd h2 hph))
        clear hph
        have HX2 := Lib.hid (heap_alloc_new w1 (.cells #[.int .i64 f.id, .int .i64 f.mark, .int .i64 f.pan, .int .i64 f.ph, .slice A 0 cd] 93))
        have HC2 := Lib.hid (HC1.out.below (al (.cells #[.int .i64 f.id, .int .i64 f.mark, .int .i64 f.pan, .int .i64 f.ph, .slice A 0 cd] 93)))
        have HB2 := Lib.hid (HB1.out.alloc HC1.out.base_le (.cells #[.int .i64 f.id, .int .i64 f.mark, .int .i64 f.pan, .int .i64 f.ph, .slice A 0 cd] 93))
        have HG2 := Lib.hid (show P ≠ w1.heap.size from fun e => by have := (Array.getElem?_eq_some_iff.1 HC1.out.box).1; omega)
        go_wp2_with fail
        clear t0 t1' t2 t3 t4
        clear HC1 HB1
        generalize hw2 : w1.alloc (.cells #[.int .i64 f.id, .int .i64 f.mark, .int .i64 f.pan, .int .i64 f.ph, .slice A 0 cd] 93) = w2 at *
        clear hw2
        generalize w1.heap.size = gb at *
        have d0 := HC2.out.boxc.1
        have z0 := HC2.out.boxc.2.2.2.2.2.2.2 0
        have hwr : IntKind.i64.wrap (fs.length : Int) = (fs.length : Int) := IntWalk.i64_in _ (by omega)
        have hkc' : (fs.length : Int) ≤ (c : Int) := by omega
        go_still_tail 17, (by kernel_rfl)
        change wpList _ _ _ _ _ w2.drew
        have HC3 := Lib.hid (HC2.out.below (Below.refl _ _).drew)
        have HB3 := Lib.hid (HB2.out.drew)
        have HX3 := Lib.hid (show w2.drew.heap[gb]? = _ from HX2.out)
        clear HC2 HB2 HX2 d0 z0
        generalize w2.drew = w3 at *
        have d0 := HC3.out.boxc.1
        have z0 := HC3.out.boxc.2.2.2.2.2.2.2 0
        have hbp := HC3.out.hP
        have HX4 := Lib.hid ((Below.heap_setCell w3 ⟨P, 0, none⟩ (.slice (some ⟨F, 0, none⟩) fs.length c) gb (fun e => HG2.out e.symm)).trans HX3.out)
        have f0 : (w3.setCell ⟨P, 0, none⟩ (.slice (some ⟨F, 0, none⟩) fs.length c)).cell? ⟨gb, 0, none⟩ = some (.int .i64 f.id) := by rw [Lib.cell_of_heap HX4.out]; rfl
        have f1 : (w3.setCell ⟨P, 0, none⟩ (.slice (some ⟨F, 0, none⟩) fs.length c)).cell? ⟨gb, 1, none⟩ = some (.int .i64 f.mark) := by rw [Lib.cell_of_heap HX4.out]; rfl
        have f2 : (w3.setCell ⟨P, 0, none⟩ (.slice (some ⟨F, 0, none⟩) fs.length c)).cell? ⟨gb, 2, none⟩ = some (.int .i64 f.pan) := by rw [Lib.cell_of_heap HX4.out]; rfl
        have f3 : (w3.setCell ⟨P, 0, none⟩ (.slice (some ⟨F, 0, none⟩) fs.length c)).cell? ⟨gb, 3, none⟩ = some (.int .i64 f.ph) := by rw [Lib.cell_of_heap HX4.out]; rfl
        have f4 : (w3.setCell ⟨P, 0, none⟩ (.slice (some ⟨F, 0, none⟩) fs.length c)).cell? ⟨gb, 4, none⟩ = some (.slice A 0 cd) := by rw [Lib.cell_of_heap HX4.out]; rfl
        go_wp2_with fail
        have HP4 := Lib.hid (HC3.out.popF HF.out rfl)
        have HB4 := Lib.hid (HB3.out.setCell (p := ⟨P, 0, none⟩) hbp (.slice (some ⟨F, 0, none⟩) fs.length c))
        have HMU := Lib.hid (PL.frAt ⟨_, _, _, _, HC.out⟩)
        refine Calls.mono (left_any base P s1 (tl ++ t1) fs f (.slice A 0 cd) _ HP4.out HN.out HPH.out HMK.out HPP.out hpn HTL.out hfl2) ?_
        rintro e w5 ⟨⟨rfl, r, l, hr, hp5⟩ | ⟨rfl, r, l, hr, hp5⟩, hb5⟩
        · have HR := Lib.hid (HGO.out _ _ (.done HF.out hr))
          have HP5 := Lib.hid hp5
          have HB5 := Lib.hid (HB4.out.trans hb5)
          clear hr hp5 hb5
          go_wp2_with fail
          refine bodyPost_ret (results_none rfl _ _ _) rfl ?_
          exact ⟨rfl, ⟨_, _, HR.out, by rw [← List.append_assoc]; exact HP5.out⟩, HB5.out⟩
        · obtain ⟨k1, k2, k3⟩ := (go_keeps HBD.out HGV.out HF.out).2.1 _ _ hr
          have HK3 := Lib.hid k3
          have HST := Lib.hid (show SetI base P s tl a b w5 from ⟨r, t1 ++ l, fun r' l' h' => by rw [List.append_assoc]; exact HGO.out _ _ (.step HF.out hr h'), k2, k1, by
            have h1 := go_len hr
            have h2 := HLN.out
            simp only [List.length_append]
            omega, by rw [← List.append_assoc]; exact hp5⟩)
          have HFA := Lib.hid hp5.frAt
          have HB5 := Lib.hid (HB4.out.trans hb5)
          clear hr hp5 hb5 k1 k2 k3
          go_wp2_with fail
          go_roundw
          case rel => exact ⟨HST, HB5⟩
          case measure =>
            rw [HFA.out, HMU.out]
            exact HK3.out
    · have h0' : 0 < n := by omega
      have h0i : (0 : Int) < (n : Int) := by omega
      go_wp2_with fail
      have HC2 := Lib.hid (HC1.out.below (al (.cells #[.int .i64 f.id, .int .i64 f.mark, .int .i64 f.pan, .int .i64 f.ph, .slice A n cd] 93)))
      have HB2 := Lib.hid (HB1.out.alloc HC1.out.base_le (.cells #[.int .i64 f.id, .int .i64 f.mark, .int .i64 f.pan, .int .i64 f.ph, .slice A n cd] 93))
      refine Calls.mono (start_any base P s1 (tl ++ t1) fs f _ ⟨_, _, _, _, HC2.out⟩ HF.out (by rw [HN.out]; exact h0) (fun h2 => ?_) (by rw [HN.out]; exact hn2) (Nat.le_trans HBD.out.pn hb) (by have := HLN.out; have := HS.out; simp; omega) HBD.out.fr (Nat.le_trans HBD.out.next (by omega))) ?_
      · rcases HTOP.out with ⟨h1, _⟩ | ⟨_, x, hs⟩
        · omega
        · obtain ⟨p, hp, _⟩ := hs.last
          intro e
          rw [List.eq_nil_of_length_eq_zero e] at hp
          cases hp
      rintro e w3 ⟨rfl, ⟨r, l, hr, hp3⟩, hb3⟩
      have HR := Lib.hid (HGO.out _ _ (.done HF.out hr))
      have HP3 := Lib.hid hp3
      have HB3 := Lib.hid (HB2.out.trans hb3)
      clear hr hp3 hb3
      go_wp2_with fail
      refine bodyPost_ret (results_none rfl _ _ _) rfl ?_
      exact ⟨rfl, ⟨_, _, HR.out, by rw [← List.append_assoc]; exact HP3.out⟩, HB3.out⟩
end Go.Proofs.Ytapofohbngkekaa
