/- The document's 'left', with each of its two tests. Printed by gen_sqh.py. Conditions: the list fits what comes in. -/
import Derived.Test.YtapbdfcihheecaaSqE
set_option maxRecDepth 100000
namespace Go.Proofs.Ytapbdfcihheecaa
open Go.ChangeShapes Go.WideShapes Go.ChangeAt Go.RowKit
set_option maxHeartbeats 2000000 in
theorem left1_any (A : Option Addr) (n c gb : Nat) (l : List II) (st : Nat → Bool) (w : World) (h : InsR w w.heap.size A n l) (hl : InB l) (hn : n ≤ 1000000)
    (hst : ∀ W, Below w.heap.size w W → ∀ k, k < n → Calls Try.prog 108 #[.int .i64 (k : Int), .pointer (some ⟨gb, 0, none⟩)] W fun e w' => e = .returned (.bool (!st k)) ∧ Below W.heap.size W w') :
    Calls Try.prog 107 #[.slice A n c, .func (.func 108) #[] #[.pointer (some ⟨gb, 0, none⟩)]] w fun e w' => ∃ A' m c', e = .returned (.slice A' m c') ∧ InsM w' (fun b => w.heap.size ≤ b ∧ b < w'.heap.size) A' m (keepV l st) ∧ CapR A' m c' ∧ Below w.heap.size w w' := by
  obtain ⟨j0, hj, jz0, jz1, jz2⟩ := info_parts info_ins
  have HI := Lib.hid h
  have HL := Lib.hid hl
  have HN := Lib.hid h.1
  have HST := Lib.hid hst
  clear h hl hst
  go_enter Try.func107, Try.ntmps107
  go_wp2_with fail
  generalize hgs : w.heap.size = gp at *
  have HGP := Lib.hid hgs
  have HBS := Lib.hid (show Below gp w w from Below.refl _ _)
  clear hgs
  go_loopw [14, 5] (fun i v wr => ∃ q : Nat, q ≤ n ∧ i = .int .i64 (q : Int) ∧ Hid (Own II.sh 126 wr gp (· < gp) v (keepF l st q)) ∧ Hid (Below gp w wr)) (fun i _ _ => n - (intOf i).toNat)
  case atStart => exact ⟨0, Nat.zero_le _, rfl, Own.nil, HBS⟩
  case round =>
    obtain ⟨q, hq, rfl, HOU, HBQ⟩ := hrel
    obtain ⟨VA, VC, hv⟩ := HOU.out.form
    subst hv
    generalize wr = wo at *
    by_cases hql : q < n
    · obtain ⟨x, hx⟩ : ∃ x, l[q]? = some x := ⟨_, List.getElem?_eq_getElem (by rw [← HN.out]; exact hql)⟩
      obtain ⟨b, off, hA, hb, e0, e1, e2, e3, e4, e5⟩ := (HI.out.below HBQ.out).at hx
      have HX := Lib.hid hx
      have HBD := Lib.hid (HI.out.bd (List.mem_of_getElem? hx))
      have HTG := Lib.hid (show tgV x = if tgtB x.o = true then some (tgtN x.o x.a x.b) else none from rfl)
      have HKS := Lib.hid (keepF_step (st := st) hx)
      have hfl : (keepF l st q).length ≤ 1000000 := by rw [keepF_len q (by have := HN.out; omega)]; exact Nat.le_trans (cq_le st q) (by omega)
      subst hA
      obtain ⟨xo, xa, xb, xc, xd, xe⟩ := x
      simp only at e0 e1 e2 e3 e4 e5 HBD HTG
      have hbw : b < wo.heap.size := Nat.lt_of_lt_of_le (by rw [HGP.out]; exact hb) HBQ.out.size
      clear hx
      have hgpw : gp ≤ wo.heap.size := by rw [← HGP.out]; exact HBQ.out.size
      have HBA := Lib.hid (HBQ.out.alloc hgpw (.cells #[.int .i64 xo, .int .i64 xa, .int .i64 xb, .int .i64 xc, .int .i64 xd, .int .i64 xe] 126))
      go_wp2_with fail
      refine Calls.mono (HST.out _ HBA.out q hql) ?_
      rintro e w3 ⟨rfl, hb3⟩
      have HB3 := Lib.hid (HBA.out.trans (hb3.mono (by rw [← HGP.out]; exact HBA.out.size)))
      have hf3 := (hb3.block wo.heap.size (by simp)).trans (heap_alloc_new wo _)
      have HF3 := Lib.hid hf3
      have HO3 := Lib.hid ((HOU.out.below (al (.cells #[.int .i64 xo, .int .i64 xa, .int .i64 xb, .int .i64 xc, .int .i64 xd, .int .i64 xe] 126))).below hb3)
      have hs3 : wo.heap.size < w3.heap.size := (Array.getElem?_eq_some_iff.1 hf3).1
      clear hb3
      cases hsk : st q with
      | false =>
        have HKE := Lib.hid (show keepF l st (q + 1) = keepF l st q by rw [HKS.out, hsk]; simp)
        clear hsk hf3
        go_wp2_with fail
        go_roundw
        case rel => exact ⟨q + 1, by omega, by go_num, by rw [HKE.out]; exact HO3, HB3⟩
        case measure => simp [intOf]; omega
      | true =>
        have d0 : w3.cell? ⟨wo.heap.size, 0, none⟩ = some (.int .i64 xo) := by rw [Lib.cell_of_heap hf3]; rfl
        have d1 : w3.cell? ⟨wo.heap.size, 1, none⟩ = some (.int .i64 xa) := by rw [Lib.cell_of_heap hf3]; rfl
        have d2 : w3.cell? ⟨wo.heap.size, 2, none⟩ = some (.int .i64 xb) := by rw [Lib.cell_of_heap hf3]; rfl
        have d3 : w3.cell? ⟨wo.heap.size, 3, none⟩ = some (.int .i64 xc) := by rw [Lib.cell_of_heap hf3]; rfl
        have d4 : w3.cell? ⟨wo.heap.size, 4, none⟩ = some (.int .i64 xd) := by rw [Lib.cell_of_heap hf3]; rfl
        have d5 : w3.cell? ⟨wo.heap.size, 5, none⟩ = some (.int .i64 xe) := by rw [Lib.cell_of_heap hf3]; rfl
        have HKT := Lib.hid (show keepF l st (q + 1) = keepF l st q ++ [keepI st ⟨xo, xa, xb, xc, xd, xe⟩] by rw [HKS.out, hsk]; simp)
        clear hsk hf3
        go_wp2_with fail
        refine Calls.mono (refTargetOf_any xo xa xb xc xd xe _) ?_
        rintro e w4 ⟨rfl, hb4⟩
        have HB4 := Lib.hid (HB3.out.trans (hb4.mono (by rw [← HGP.out]; exact HB3.out.size)))
        have hf4 := (hb4.block wo.heap.size hs3).trans HF3.out
        have HF4 := Lib.hid hf4
        have HO4 := Lib.hid (HO3.out.below hb4)
        have hs4 : wo.heap.size < w4.heap.size := (Array.getElem?_eq_some_iff.1 hf4).1
        clear hb4 d0 d1 d2 d3 d4 d5
        have d0 : w4.cell? ⟨wo.heap.size, 0, none⟩ = some (.int .i64 xo) := by rw [Lib.cell_of_heap hf4]; rfl
        have d1 : w4.cell? ⟨wo.heap.size, 1, none⟩ = some (.int .i64 xa) := by rw [Lib.cell_of_heap hf4]; rfl
        have d2 : w4.cell? ⟨wo.heap.size, 2, none⟩ = some (.int .i64 xb) := by rw [Lib.cell_of_heap hf4]; rfl
        have d3 : w4.cell? ⟨wo.heap.size, 3, none⟩ = some (.int .i64 xc) := by rw [Lib.cell_of_heap hf4]; rfl
        have d4 : w4.cell? ⟨wo.heap.size, 4, none⟩ = some (.int .i64 xd) := by rw [Lib.cell_of_heap hf4]; rfl
        have d5 : w4.cell? ⟨wo.heap.size, 5, none⟩ = some (.int .i64 xe) := by rw [Lib.cell_of_heap hf4]; rfl
        clear hf4
        cases htb : tgtB xo with
        | false =>
          have HKE := Lib.hid (show keepF l st (q + 1) = keepF l st q ++ [⟨xo, xa, xb, xc, xd, xe⟩] by rw [HKT.out]; unfold keepI; rw [HTG.out, htb]; rfl)
          clear htb
          go_wp2_with (first
            | (at_builtin; refine wpList_append_Own (S := II.sh) rfl _ _ 121 rfl gp 126 j0 _ 48 Try.underlying121 hj jz0 jz1 jz2 rfl (by show 0 < 6; omega) (· < gp) (.slice VA (keepF l st q).length VC) (keepF l st q) rfl (HO4.out.below (al _)) _ _ 1 1 _ _ [(⟨xo, xa, xb, xc, xd, xe⟩ : II)] rfl (Rd.one _ _ _ 6 rfl _ (by simp)) (by simp) rfl (Shp.all1 (II.intro (v := ⟨xo, xa, xb, xc, xd, xe⟩) (HBD.out).1 (HBD.out).2.1 (HBD.out).2.2.1 (HBD.out).2.2.2.1 (HBD.out).2.2.2.2.1 (HBD.out).2.2.2.2.2)) (by unfold maxLen; omega) (by omega) (by have := hs4; simp; omega) ?_; intro A5 c5 w5 hown5 hgrow5 hob5)
            | fail "no")
          have HO5 := Lib.hid hown5
          have HB5 := Lib.hid ((HB4.out.alloc (by have := hs4; omega) (.cells _ 126)).grown hgrow5 (by have := hs4; simp; omega) (fun z hz => (HOU.out.ownlt hz).1))
          clear hown5 hgrow5 hob5
          go_wp2_with fail
          go_roundw
          case rel => exact ⟨q + 1, by omega, by go_num, by rw [HKE.out]; exact HO5, HB5⟩
          case measure => simp [intOf]; omega
        | true =>
          have htg : tgV ⟨xo, xa, xb, xc, xd, xe⟩ = some (tgtN xo xa xb) := by rw [HTG.out, htb]; rfl
          have htl := HL.out _ (List.mem_of_getElem? HX.out) _ htg
          obtain ⟨t, ht⟩ : ∃ t : Nat, tgtN xo xa xb = (t : Int) := ⟨(tgtN xo xa xb).toNat, by omega⟩
          rw [ht] at htl htg
          have htn : t < n := by have := HN.out; omega
          have HEV := Lib.hid (show cntSt st t ≤ 1000000 from Nat.le_trans (cq_le st t) (by omega))
          have HKE := Lib.hid (show keepF l st (q + 1) = keepF l st q ++ [⟨xo, aimA xo xa (cntSt st t : Int), aimB xo xb (cntSt st t : Int), xc, xd, xe⟩] by
            rw [HKT.out]
            congr 2
            unfold keepI
            rw [htg]
            simp only [Int.toNat_natCast, aimV_eq])
          have HXB := Lib.hid (show ∀ p : Nat, p ≤ 1000000 → (-9223372036854775808 ≤ xo ∧ xo ≤ 9223372036854775807) ∧ (-9223372036854775808 ≤ aimA xo xa (p : Int) ∧ aimA xo xa (p : Int) ≤ 9223372036854775807) ∧ (-9223372036854775808 ≤ aimB xo xb (p : Int) ∧ aimB xo xb (p : Int) ≤ 9223372036854775807) ∧ (-9223372036854775808 ≤ xc ∧ xc ≤ 9223372036854775807) ∧ (-9223372036854775808 ≤ xd ∧ xd ≤ 9223372036854775807) ∧ (-9223372036854775808 ≤ xe ∧ xe ≤ 9223372036854775807) from fun p hp => by
            have := HBD.out
            unfold aimA aimB
            split <;> omega)
          clear htl htg htb
          rw [ht]
          clear ht
          go_wp2_with fail
          go_loopw [11, 10] (fun i v wz => ∃ z : Nat, z ≤ t ∧ i = .int .i64 (z : Int) ∧ v = .int .i64 ((cntSt st z : Nat) : Int) ∧ Hid (Below w4.heap.size w4 wz)) (fun i _ _ => t - (intOf i).toNat)
          case atStart => exact ⟨0, Nat.zero_le _, rfl, rfl, Lib.hid (Below.refl _ _)⟩
          case round =>
            obtain ⟨z, hz, rfl, rfl, HBZ⟩ := hrel
            by_cases hzt : z < t
            · have hcl : cntSt st z ≤ 1000000 := Nat.le_trans (cq_le st z) (by omega)
              have HCS := Lib.hid (show cntSt st (z + 1) = cntSt st z + (if st z = true then 1 else 0) from rfl)
              generalize cntSt st z = cv at *
              have hzi : (z : Int) < (t : Int) := by omega
              go_wp2_with fail
              refine Calls.mono (HST.out _ (HB4.out.trans (HBZ.out.mono (by rw [← HGP.out]; exact HB4.out.size))) z (by omega)) ?_
              rintro e w5 ⟨rfl, hb5⟩
              have HBN := Lib.hid (HBZ.out.trans (hb5.mono HBZ.out.size))
              clear hb5
              cases hsz : st z with
              | true =>
                rw [hsz] at HCS
                clear hsz
                go_wp2_with fail
                go_roundw
                case rel => exact ⟨z + 1, by omega, by go_num, by rw [HCS.out]; go_num, HBN⟩
                case measure => simp [intOf]; omega
              | false =>
                rw [hsz] at HCS
                clear hsz
                go_wp2_with fail
                go_roundw
                case rel => exact ⟨z + 1, by omega, by go_num, by rw [HCS.out]; go_num, HBN⟩
                case measure => simp [intOf]; omega
            · obtain rfl : z = t := by omega
              generalize cntSt st z = ev at *
              have HB8 := Lib.hid (HB4.out.trans (HBZ.out.mono (by rw [← HGP.out]; exact HB4.out.size)))
              have hf8 := (HBZ.out.block wo.heap.size hs4).trans HF4.out
              have HF8 := Lib.hid hf8
              have HO8 := Lib.hid (HO4.out.below HBZ.out)
              have hs8 : wo.heap.size < wr.heap.size := (Array.getElem?_eq_some_iff.1 hf8).1
              clear d0 d1 d2 d3 d4 d5
              have d0 : wr.cell? ⟨wo.heap.size, 0, none⟩ = some (.int .i64 xo) := by rw [Lib.cell_of_heap hf8]; rfl
              have d1 : wr.cell? ⟨wo.heap.size, 1, none⟩ = some (.int .i64 xa) := by rw [Lib.cell_of_heap hf8]; rfl
              have d2 : wr.cell? ⟨wo.heap.size, 2, none⟩ = some (.int .i64 xb) := by rw [Lib.cell_of_heap hf8]; rfl
              have d3 : wr.cell? ⟨wo.heap.size, 3, none⟩ = some (.int .i64 xc) := by rw [Lib.cell_of_heap hf8]; rfl
              have d4 : wr.cell? ⟨wo.heap.size, 4, none⟩ = some (.int .i64 xd) := by rw [Lib.cell_of_heap hf8]; rfl
              have d5 : wr.cell? ⟨wo.heap.size, 5, none⟩ = some (.int .i64 xe) := by rw [Lib.cell_of_heap hf8]; rfl
              clear hf8
              go_wp2_with fail
              refine Calls.mono (turned_any xo xa xb xc xd xe (ev : Int) _) ?_
              rintro e w6 ⟨rfl, hb6⟩
              have hf6 := (hb6.block wo.heap.size hs8).trans HF8.out
              have f0 := Lib.frozen_of_heap hf6 0
              have f1 := Lib.frozen_of_heap hf6 1
              have f2 := Lib.frozen_of_heap hf6 2
              have f3 := Lib.frozen_of_heap hf6 3
              have f4 := Lib.frozen_of_heap hf6 4
              have f5 := Lib.frozen_of_heap hf6 5
              clear d0 d1 d2 d3 d4 d5
              have d0 : w6.cell? ⟨wo.heap.size, 0, none⟩ = some (.int .i64 xo) := by rw [Lib.cell_of_heap hf6]; rfl
              have d1 : w6.cell? ⟨wo.heap.size, 1, none⟩ = some (.int .i64 xa) := by rw [Lib.cell_of_heap hf6]; rfl
              have d2 : w6.cell? ⟨wo.heap.size, 2, none⟩ = some (.int .i64 xb) := by rw [Lib.cell_of_heap hf6]; rfl
              have d3 : w6.cell? ⟨wo.heap.size, 3, none⟩ = some (.int .i64 xc) := by rw [Lib.cell_of_heap hf6]; rfl
              have d4 : w6.cell? ⟨wo.heap.size, 4, none⟩ = some (.int .i64 xd) := by rw [Lib.cell_of_heap hf6]; rfl
              have d5 : w6.cell? ⟨wo.heap.size, 5, none⟩ = some (.int .i64 xe) := by rw [Lib.cell_of_heap hf6]; rfl
              go_upto_region 15 with (fail)
              (
                have HB6 := Lib.hid (HB8.out.trans (hb6.mono (by rw [← HGP.out]; exact HB8.out.size)))
                have HO6 := Lib.hid (HO8.out.below hb6)
                have hs6 : wo.heap.size < w6.heap.size := (Array.getElem?_eq_some_iff.1 hf6).1
                have hvl : ∀ z, (Value.slice VA (keepF l st q).length VC).ownBlock = some z → z ≠ wo.heap.size := fun z hz => by have := (HOU.out.ownlt hz).2; omega
                obtain ⟨w7, hw7, b7, k7, s7, o7, t7, u7'⟩ := six_ex (.int .i64 xo) (.int .i64 (aimA xo xa (ev : Int))) (.int .i64 (aimB xo xb (ev : Int))) (.int .i64 xc) (.int .i64 xd) (.int .i64 xe) hf6
                rw [← hw7]
                have HO7 := Lib.hid (HO6.out.iiK (w' := w7) (by omega) (fun z hz => k7 z (hvl z hz)))
                have HB7 := Lib.hid (show Below gp w w7 from ⟨o7.trans HB6.out.os, t7.trans HB6.out.tape, u7'.trans HB6.out.output, by have := HB6.out.size; omega, fun z hz => (k7 z (by omega)).trans (HB6.out.block z hz)⟩)
                have hs7 : wo.heap.size < w7.heap.size := by omega
                clear hf6 hb6 d0 d1 d2 d3 d4 d5 f0 f1 f2 f3 f4 f5 hw7 k7 s7 o7 t7 u7' hvl
                have d0 : w7.cell? ⟨wo.heap.size, 0, none⟩ = some (.int .i64 xo) := by rw [Lib.cell_of_heap b7]; rfl
                have d1 : w7.cell? ⟨wo.heap.size, 1, none⟩ = some (.int .i64 (aimA xo xa (ev : Int))) := by rw [Lib.cell_of_heap b7]; rfl
                have d2 : w7.cell? ⟨wo.heap.size, 2, none⟩ = some (.int .i64 (aimB xo xb (ev : Int))) := by rw [Lib.cell_of_heap b7]; rfl
                have d3 : w7.cell? ⟨wo.heap.size, 3, none⟩ = some (.int .i64 xc) := by rw [Lib.cell_of_heap b7]; rfl
                have d4 : w7.cell? ⟨wo.heap.size, 4, none⟩ = some (.int .i64 xd) := by rw [Lib.cell_of_heap b7]; rfl
                have d5 : w7.cell? ⟨wo.heap.size, 5, none⟩ = some (.int .i64 xe) := by rw [Lib.cell_of_heap b7]; rfl
                clear b7
                go_wp2_with (first
                  | (at_builtin; refine wpList_append_Own (S := II.sh) rfl _ _ 121 rfl gp 126 j0 _ 48 Try.underlying121 hj jz0 jz1 jz2 rfl (by show 0 < 6; omega) (· < gp) (.slice VA (keepF l st q).length VC) (keepF l st q) rfl (HO7.out.below (al _)) _ _ 1 1 _ _ [(⟨xo, aimA xo xa (ev : Int), aimB xo xb (ev : Int), xc, xd, xe⟩ : II)] rfl (Rd.one _ _ _ 6 rfl _ (by simp)) (by simp) rfl (Shp.all1 (II.intro (v := ⟨xo, aimA xo xa (ev : Int), aimB xo xb (ev : Int), xc, xd, xe⟩) (HXB.out ev HEV.out).1 (HXB.out ev HEV.out).2.1 (HXB.out ev HEV.out).2.2.1 (HXB.out ev HEV.out).2.2.2.1 (HXB.out ev HEV.out).2.2.2.2.1 (HXB.out ev HEV.out).2.2.2.2.2)) (by unfold maxLen; omega) (by omega) (by have := hs7; simp; omega) ?_; intro A5 c5 w5 hown5 hgrow5 hob5)
                  | fail "no")
                have HO5 := Lib.hid hown5
                have HB5 := Lib.hid ((HB7.out.alloc (by have := hs7; omega) (.cells _ 126)).grown hgrow5 (by have := hs7; simp; omega) (fun z hz => (HOU.out.ownlt hz).1))
                clear hown5 hgrow5 hob5
                go_wp2_with fail
                go_roundw
                case rel => exact ⟨q + 1, by omega, by go_num, by rw [HKE.out]; exact HO5, HB5⟩
                case measure => simp [intOf]; omega)
    · obtain rfl : q = n := by omega
      go_wp2_with fail
      go_ret
      refine ⟨VA, _, VC, rfl, ?_, HOU.out.capR, by rw [HGP.out]; exact HBQ.out⟩
      rw [show keepV l st = keepF l st q by unfold keepV; rw [← HN.out], HGP.out]
      exact InsM.of_own HOU.out
set_option maxHeartbeats 2000000 in
theorem left2_any (A : Option Addr) (n c gb : Nat) (l : List II) (st : Nat → Bool) (w : World) (h : InsR w w.heap.size A n l) (hl : InB l) (hn : n ≤ 1000000)
    (hst : ∀ W, Below w.heap.size w W → ∀ k, k < n → Calls Try.prog 109 #[.int .i64 (k : Int), .pointer (some ⟨gb, 0, none⟩)] W fun e w' => e = .returned (.bool (!st k)) ∧ Below W.heap.size W w') :
    Calls Try.prog 107 #[.slice A n c, .func (.func 109) #[] #[.pointer (some ⟨gb, 0, none⟩)]] w fun e w' => ∃ A' m c', e = .returned (.slice A' m c') ∧ InsM w' (fun b => w.heap.size ≤ b ∧ b < w'.heap.size) A' m (keepV l st) ∧ CapR A' m c' ∧ Below w.heap.size w w' := by
  obtain ⟨j0, hj, jz0, jz1, jz2⟩ := info_parts info_ins
  have HI := Lib.hid h
  have HL := Lib.hid hl
  have HN := Lib.hid h.1
  have HST := Lib.hid hst
  clear h hl hst
  go_enter Try.func107, Try.ntmps107
  go_wp2_with fail
  generalize hgs : w.heap.size = gp at *
  have HGP := Lib.hid hgs
  have HBS := Lib.hid (show Below gp w w from Below.refl _ _)
  clear hgs
  go_loopw [14, 5] (fun i v wr => ∃ q : Nat, q ≤ n ∧ i = .int .i64 (q : Int) ∧ Hid (Own II.sh 126 wr gp (· < gp) v (keepF l st q)) ∧ Hid (Below gp w wr)) (fun i _ _ => n - (intOf i).toNat)
  case atStart => exact ⟨0, Nat.zero_le _, rfl, Own.nil, HBS⟩
  case round =>
    obtain ⟨q, hq, rfl, HOU, HBQ⟩ := hrel
    obtain ⟨VA, VC, hv⟩ := HOU.out.form
    subst hv
    generalize wr = wo at *
    by_cases hql : q < n
    · obtain ⟨x, hx⟩ : ∃ x, l[q]? = some x := ⟨_, List.getElem?_eq_getElem (by rw [← HN.out]; exact hql)⟩
      obtain ⟨b, off, hA, hb, e0, e1, e2, e3, e4, e5⟩ := (HI.out.below HBQ.out).at hx
      have HX := Lib.hid hx
      have HBD := Lib.hid (HI.out.bd (List.mem_of_getElem? hx))
      have HTG := Lib.hid (show tgV x = if tgtB x.o = true then some (tgtN x.o x.a x.b) else none from rfl)
      have HKS := Lib.hid (keepF_step (st := st) hx)
      have hfl : (keepF l st q).length ≤ 1000000 := by rw [keepF_len q (by have := HN.out; omega)]; exact Nat.le_trans (cq_le st q) (by omega)
      subst hA
      obtain ⟨xo, xa, xb, xc, xd, xe⟩ := x
      simp only at e0 e1 e2 e3 e4 e5 HBD HTG
      have hbw : b < wo.heap.size := Nat.lt_of_lt_of_le (by rw [HGP.out]; exact hb) HBQ.out.size
      clear hx
      have hgpw : gp ≤ wo.heap.size := by rw [← HGP.out]; exact HBQ.out.size
      have HBA := Lib.hid (HBQ.out.alloc hgpw (.cells #[.int .i64 xo, .int .i64 xa, .int .i64 xb, .int .i64 xc, .int .i64 xd, .int .i64 xe] 126))
      go_wp2_with fail
      refine Calls.mono (HST.out _ HBA.out q hql) ?_
      rintro e w3 ⟨rfl, hb3⟩
      have HB3 := Lib.hid (HBA.out.trans (hb3.mono (by rw [← HGP.out]; exact HBA.out.size)))
      have hf3 := (hb3.block wo.heap.size (by simp)).trans (heap_alloc_new wo _)
      have HF3 := Lib.hid hf3
      have HO3 := Lib.hid ((HOU.out.below (al (.cells #[.int .i64 xo, .int .i64 xa, .int .i64 xb, .int .i64 xc, .int .i64 xd, .int .i64 xe] 126))).below hb3)
      have hs3 : wo.heap.size < w3.heap.size := (Array.getElem?_eq_some_iff.1 hf3).1
      clear hb3
      cases hsk : st q with
      | false =>
        have HKE := Lib.hid (show keepF l st (q + 1) = keepF l st q by rw [HKS.out, hsk]; simp)
        clear hsk hf3
        go_wp2_with fail
        go_roundw
        case rel => exact ⟨q + 1, by omega, by go_num, by rw [HKE.out]; exact HO3, HB3⟩
        case measure => simp [intOf]; omega
      | true =>
        have d0 : w3.cell? ⟨wo.heap.size, 0, none⟩ = some (.int .i64 xo) := by rw [Lib.cell_of_heap hf3]; rfl
        have d1 : w3.cell? ⟨wo.heap.size, 1, none⟩ = some (.int .i64 xa) := by rw [Lib.cell_of_heap hf3]; rfl
        have d2 : w3.cell? ⟨wo.heap.size, 2, none⟩ = some (.int .i64 xb) := by rw [Lib.cell_of_heap hf3]; rfl
        have d3 : w3.cell? ⟨wo.heap.size, 3, none⟩ = some (.int .i64 xc) := by rw [Lib.cell_of_heap hf3]; rfl
        have d4 : w3.cell? ⟨wo.heap.size, 4, none⟩ = some (.int .i64 xd) := by rw [Lib.cell_of_heap hf3]; rfl
        have d5 : w3.cell? ⟨wo.heap.size, 5, none⟩ = some (.int .i64 xe) := by rw [Lib.cell_of_heap hf3]; rfl
        have HKT := Lib.hid (show keepF l st (q + 1) = keepF l st q ++ [keepI st ⟨xo, xa, xb, xc, xd, xe⟩] by rw [HKS.out, hsk]; simp)
        clear hsk hf3
        go_wp2_with fail
        refine Calls.mono (refTargetOf_any xo xa xb xc xd xe _) ?_
        rintro e w4 ⟨rfl, hb4⟩
        have HB4 := Lib.hid (HB3.out.trans (hb4.mono (by rw [← HGP.out]; exact HB3.out.size)))
        have hf4 := (hb4.block wo.heap.size hs3).trans HF3.out
        have HF4 := Lib.hid hf4
        have HO4 := Lib.hid (HO3.out.below hb4)
        have hs4 : wo.heap.size < w4.heap.size := (Array.getElem?_eq_some_iff.1 hf4).1
        clear hb4 d0 d1 d2 d3 d4 d5
        have d0 : w4.cell? ⟨wo.heap.size, 0, none⟩ = some (.int .i64 xo) := by rw [Lib.cell_of_heap hf4]; rfl
        have d1 : w4.cell? ⟨wo.heap.size, 1, none⟩ = some (.int .i64 xa) := by rw [Lib.cell_of_heap hf4]; rfl
        have d2 : w4.cell? ⟨wo.heap.size, 2, none⟩ = some (.int .i64 xb) := by rw [Lib.cell_of_heap hf4]; rfl
        have d3 : w4.cell? ⟨wo.heap.size, 3, none⟩ = some (.int .i64 xc) := by rw [Lib.cell_of_heap hf4]; rfl
        have d4 : w4.cell? ⟨wo.heap.size, 4, none⟩ = some (.int .i64 xd) := by rw [Lib.cell_of_heap hf4]; rfl
        have d5 : w4.cell? ⟨wo.heap.size, 5, none⟩ = some (.int .i64 xe) := by rw [Lib.cell_of_heap hf4]; rfl
        clear hf4
        cases htb : tgtB xo with
        | false =>
          have HKE := Lib.hid (show keepF l st (q + 1) = keepF l st q ++ [⟨xo, xa, xb, xc, xd, xe⟩] by rw [HKT.out]; unfold keepI; rw [HTG.out, htb]; rfl)
          clear htb
          go_wp2_with (first
            | (at_builtin; refine wpList_append_Own (S := II.sh) rfl _ _ 121 rfl gp 126 j0 _ 48 Try.underlying121 hj jz0 jz1 jz2 rfl (by show 0 < 6; omega) (· < gp) (.slice VA (keepF l st q).length VC) (keepF l st q) rfl (HO4.out.below (al _)) _ _ 1 1 _ _ [(⟨xo, xa, xb, xc, xd, xe⟩ : II)] rfl (Rd.one _ _ _ 6 rfl _ (by simp)) (by simp) rfl (Shp.all1 (II.intro (v := ⟨xo, xa, xb, xc, xd, xe⟩) (HBD.out).1 (HBD.out).2.1 (HBD.out).2.2.1 (HBD.out).2.2.2.1 (HBD.out).2.2.2.2.1 (HBD.out).2.2.2.2.2)) (by unfold maxLen; omega) (by omega) (by have := hs4; simp; omega) ?_; intro A5 c5 w5 hown5 hgrow5 hob5)
            | fail "no")
          have HO5 := Lib.hid hown5
          have HB5 := Lib.hid ((HB4.out.alloc (by have := hs4; omega) (.cells _ 126)).grown hgrow5 (by have := hs4; simp; omega) (fun z hz => (HOU.out.ownlt hz).1))
          clear hown5 hgrow5 hob5
          go_wp2_with fail
          go_roundw
          case rel => exact ⟨q + 1, by omega, by go_num, by rw [HKE.out]; exact HO5, HB5⟩
          case measure => simp [intOf]; omega
        | true =>
          have htg : tgV ⟨xo, xa, xb, xc, xd, xe⟩ = some (tgtN xo xa xb) := by rw [HTG.out, htb]; rfl
          have htl := HL.out _ (List.mem_of_getElem? HX.out) _ htg
          obtain ⟨t, ht⟩ : ∃ t : Nat, tgtN xo xa xb = (t : Int) := ⟨(tgtN xo xa xb).toNat, by omega⟩
          rw [ht] at htl htg
          have htn : t < n := by have := HN.out; omega
          have HEV := Lib.hid (show cntSt st t ≤ 1000000 from Nat.le_trans (cq_le st t) (by omega))
          have HKE := Lib.hid (show keepF l st (q + 1) = keepF l st q ++ [⟨xo, aimA xo xa (cntSt st t : Int), aimB xo xb (cntSt st t : Int), xc, xd, xe⟩] by
            rw [HKT.out]
            congr 2
            unfold keepI
            rw [htg]
            simp only [Int.toNat_natCast, aimV_eq])
          have HXB := Lib.hid (show ∀ p : Nat, p ≤ 1000000 → (-9223372036854775808 ≤ xo ∧ xo ≤ 9223372036854775807) ∧ (-9223372036854775808 ≤ aimA xo xa (p : Int) ∧ aimA xo xa (p : Int) ≤ 9223372036854775807) ∧ (-9223372036854775808 ≤ aimB xo xb (p : Int) ∧ aimB xo xb (p : Int) ≤ 9223372036854775807) ∧ (-9223372036854775808 ≤ xc ∧ xc ≤ 9223372036854775807) ∧ (-9223372036854775808 ≤ xd ∧ xd ≤ 9223372036854775807) ∧ (-9223372036854775808 ≤ xe ∧ xe ≤ 9223372036854775807) from fun p hp => by
            have := HBD.out
            unfold aimA aimB
            split <;> omega)
          clear htl htg htb
          rw [ht]
          clear ht
          go_wp2_with fail
          go_loopw [11, 10] (fun i v wz => ∃ z : Nat, z ≤ t ∧ i = .int .i64 (z : Int) ∧ v = .int .i64 ((cntSt st z : Nat) : Int) ∧ Hid (Below w4.heap.size w4 wz)) (fun i _ _ => t - (intOf i).toNat)
          case atStart => exact ⟨0, Nat.zero_le _, rfl, rfl, Lib.hid (Below.refl _ _)⟩
          case round =>
            obtain ⟨z, hz, rfl, rfl, HBZ⟩ := hrel
            by_cases hzt : z < t
            · have hcl : cntSt st z ≤ 1000000 := Nat.le_trans (cq_le st z) (by omega)
              have HCS := Lib.hid (show cntSt st (z + 1) = cntSt st z + (if st z = true then 1 else 0) from rfl)
              generalize cntSt st z = cv at *
              have hzi : (z : Int) < (t : Int) := by omega
              go_wp2_with fail
              refine Calls.mono (HST.out _ (HB4.out.trans (HBZ.out.mono (by rw [← HGP.out]; exact HB4.out.size))) z (by omega)) ?_
              rintro e w5 ⟨rfl, hb5⟩
              have HBN := Lib.hid (HBZ.out.trans (hb5.mono HBZ.out.size))
              clear hb5
              cases hsz : st z with
              | true =>
                rw [hsz] at HCS
                clear hsz
                go_wp2_with fail
                go_roundw
                case rel => exact ⟨z + 1, by omega, by go_num, by rw [HCS.out]; go_num, HBN⟩
                case measure => simp [intOf]; omega
              | false =>
                rw [hsz] at HCS
                clear hsz
                go_wp2_with fail
                go_roundw
                case rel => exact ⟨z + 1, by omega, by go_num, by rw [HCS.out]; go_num, HBN⟩
                case measure => simp [intOf]; omega
            · obtain rfl : z = t := by omega
              generalize cntSt st z = ev at *
              have HB8 := Lib.hid (HB4.out.trans (HBZ.out.mono (by rw [← HGP.out]; exact HB4.out.size)))
              have hf8 := (HBZ.out.block wo.heap.size hs4).trans HF4.out
              have HF8 := Lib.hid hf8
              have HO8 := Lib.hid (HO4.out.below HBZ.out)
              have hs8 : wo.heap.size < wr.heap.size := (Array.getElem?_eq_some_iff.1 hf8).1
              clear d0 d1 d2 d3 d4 d5
              have d0 : wr.cell? ⟨wo.heap.size, 0, none⟩ = some (.int .i64 xo) := by rw [Lib.cell_of_heap hf8]; rfl
              have d1 : wr.cell? ⟨wo.heap.size, 1, none⟩ = some (.int .i64 xa) := by rw [Lib.cell_of_heap hf8]; rfl
              have d2 : wr.cell? ⟨wo.heap.size, 2, none⟩ = some (.int .i64 xb) := by rw [Lib.cell_of_heap hf8]; rfl
              have d3 : wr.cell? ⟨wo.heap.size, 3, none⟩ = some (.int .i64 xc) := by rw [Lib.cell_of_heap hf8]; rfl
              have d4 : wr.cell? ⟨wo.heap.size, 4, none⟩ = some (.int .i64 xd) := by rw [Lib.cell_of_heap hf8]; rfl
              have d5 : wr.cell? ⟨wo.heap.size, 5, none⟩ = some (.int .i64 xe) := by rw [Lib.cell_of_heap hf8]; rfl
              clear hf8
              go_wp2_with fail
              refine Calls.mono (turned_any xo xa xb xc xd xe (ev : Int) _) ?_
              rintro e w6 ⟨rfl, hb6⟩
              have hf6 := (hb6.block wo.heap.size hs8).trans HF8.out
              have f0 := Lib.frozen_of_heap hf6 0
              have f1 := Lib.frozen_of_heap hf6 1
              have f2 := Lib.frozen_of_heap hf6 2
              have f3 := Lib.frozen_of_heap hf6 3
              have f4 := Lib.frozen_of_heap hf6 4
              have f5 := Lib.frozen_of_heap hf6 5
              clear d0 d1 d2 d3 d4 d5
              have d0 : w6.cell? ⟨wo.heap.size, 0, none⟩ = some (.int .i64 xo) := by rw [Lib.cell_of_heap hf6]; rfl
              have d1 : w6.cell? ⟨wo.heap.size, 1, none⟩ = some (.int .i64 xa) := by rw [Lib.cell_of_heap hf6]; rfl
              have d2 : w6.cell? ⟨wo.heap.size, 2, none⟩ = some (.int .i64 xb) := by rw [Lib.cell_of_heap hf6]; rfl
              have d3 : w6.cell? ⟨wo.heap.size, 3, none⟩ = some (.int .i64 xc) := by rw [Lib.cell_of_heap hf6]; rfl
              have d4 : w6.cell? ⟨wo.heap.size, 4, none⟩ = some (.int .i64 xd) := by rw [Lib.cell_of_heap hf6]; rfl
              have d5 : w6.cell? ⟨wo.heap.size, 5, none⟩ = some (.int .i64 xe) := by rw [Lib.cell_of_heap hf6]; rfl
              go_upto_region 15 with (fail)
              (
                have HB6 := Lib.hid (HB8.out.trans (hb6.mono (by rw [← HGP.out]; exact HB8.out.size)))
                have HO6 := Lib.hid (HO8.out.below hb6)
                have hs6 : wo.heap.size < w6.heap.size := (Array.getElem?_eq_some_iff.1 hf6).1
                have hvl : ∀ z, (Value.slice VA (keepF l st q).length VC).ownBlock = some z → z ≠ wo.heap.size := fun z hz => by have := (HOU.out.ownlt hz).2; omega
                obtain ⟨w7, hw7, b7, k7, s7, o7, t7, u7'⟩ := six_ex (.int .i64 xo) (.int .i64 (aimA xo xa (ev : Int))) (.int .i64 (aimB xo xb (ev : Int))) (.int .i64 xc) (.int .i64 xd) (.int .i64 xe) hf6
                rw [← hw7]
                have HO7 := Lib.hid (HO6.out.iiK (w' := w7) (by omega) (fun z hz => k7 z (hvl z hz)))
                have HB7 := Lib.hid (show Below gp w w7 from ⟨o7.trans HB6.out.os, t7.trans HB6.out.tape, u7'.trans HB6.out.output, by have := HB6.out.size; omega, fun z hz => (k7 z (by omega)).trans (HB6.out.block z hz)⟩)
                have hs7 : wo.heap.size < w7.heap.size := by omega
                clear hf6 hb6 d0 d1 d2 d3 d4 d5 f0 f1 f2 f3 f4 f5 hw7 k7 s7 o7 t7 u7' hvl
                have d0 : w7.cell? ⟨wo.heap.size, 0, none⟩ = some (.int .i64 xo) := by rw [Lib.cell_of_heap b7]; rfl
                have d1 : w7.cell? ⟨wo.heap.size, 1, none⟩ = some (.int .i64 (aimA xo xa (ev : Int))) := by rw [Lib.cell_of_heap b7]; rfl
                have d2 : w7.cell? ⟨wo.heap.size, 2, none⟩ = some (.int .i64 (aimB xo xb (ev : Int))) := by rw [Lib.cell_of_heap b7]; rfl
                have d3 : w7.cell? ⟨wo.heap.size, 3, none⟩ = some (.int .i64 xc) := by rw [Lib.cell_of_heap b7]; rfl
                have d4 : w7.cell? ⟨wo.heap.size, 4, none⟩ = some (.int .i64 xd) := by rw [Lib.cell_of_heap b7]; rfl
                have d5 : w7.cell? ⟨wo.heap.size, 5, none⟩ = some (.int .i64 xe) := by rw [Lib.cell_of_heap b7]; rfl
                clear b7
                go_wp2_with (first
                  | (at_builtin; refine wpList_append_Own (S := II.sh) rfl _ _ 121 rfl gp 126 j0 _ 48 Try.underlying121 hj jz0 jz1 jz2 rfl (by show 0 < 6; omega) (· < gp) (.slice VA (keepF l st q).length VC) (keepF l st q) rfl (HO7.out.below (al _)) _ _ 1 1 _ _ [(⟨xo, aimA xo xa (ev : Int), aimB xo xb (ev : Int), xc, xd, xe⟩ : II)] rfl (Rd.one _ _ _ 6 rfl _ (by simp)) (by simp) rfl (Shp.all1 (II.intro (v := ⟨xo, aimA xo xa (ev : Int), aimB xo xb (ev : Int), xc, xd, xe⟩) (HXB.out ev HEV.out).1 (HXB.out ev HEV.out).2.1 (HXB.out ev HEV.out).2.2.1 (HXB.out ev HEV.out).2.2.2.1 (HXB.out ev HEV.out).2.2.2.2.1 (HXB.out ev HEV.out).2.2.2.2.2)) (by unfold maxLen; omega) (by omega) (by have := hs7; simp; omega) ?_; intro A5 c5 w5 hown5 hgrow5 hob5)
                  | fail "no")
                have HO5 := Lib.hid hown5
                have HB5 := Lib.hid ((HB7.out.alloc (by have := hs7; omega) (.cells _ 126)).grown hgrow5 (by have := hs7; simp; omega) (fun z hz => (HOU.out.ownlt hz).1))
                clear hown5 hgrow5 hob5
                go_wp2_with fail
                go_roundw
                case rel => exact ⟨q + 1, by omega, by go_num, by rw [HKE.out]; exact HO5, HB5⟩
                case measure => simp [intOf]; omega)
    · obtain rfl : q = n := by omega
      go_wp2_with fail
      go_ret
      refine ⟨VA, _, VC, rfl, ?_, HOU.out.capR, by rw [HGP.out]; exact HBQ.out⟩
      rw [show keepV l st = keepF l st q by unfold keepV; rw [← HN.out], HGP.out]
      exact InsM.of_own HOU.out
end Go.Proofs.Ytapbdfcihheecaa
