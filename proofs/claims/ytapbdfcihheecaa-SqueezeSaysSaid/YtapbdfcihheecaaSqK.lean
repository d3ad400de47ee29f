/- The document's 'Round'. Conditions: the list fits what comes in. -/
import Derived.Test.YtapbdfcihheecaaSqJ
set_option maxRecDepth 100000
namespace Go.Proofs.Ytapbdfcihheecaa
open Go.ChangeShapes Go.WideShapes Go.ChangeAt Go.RowKit
theorem append_ii {ops : Array Oper} {rest : List Oper} {o : Oper} {a : Act} {Q : Exit → Act → World → Prop} (W : World) (hgd : o.guard = none) (s y : Operand)
    (ho : o.op = .call { callee := .builtin .append, args := #[s, y], argTypes := #[121, 121] }) (gp : Nat) (VA : Option Addr) (VC : Nat) (X : List II) (x : II)
    (hs : a.eval s = .slice VA X.length VC) (hy : a.eval y = .slice (some ⟨W.heap.size, 0, none⟩) 1 1) (hown : Own II.sh 126 W gp (· < gp) (.slice VA X.length VC) X) (hgp : gp ≤ W.heap.size) (hl : X.length ≤ 1000000)
    (hx : (-9223372036854775808 ≤ x.o ∧ x.o ≤ 9223372036854775807) ∧ (-9223372036854775808 ≤ x.a ∧ x.a ≤ 9223372036854775807) ∧ (-9223372036854775808 ≤ x.b ∧ x.b ≤ 9223372036854775807) ∧ (-9223372036854775808 ≤ x.c ∧ x.c ≤ 9223372036854775807) ∧ (-9223372036854775808 ≤ x.d ∧ x.d ≤ 9223372036854775807) ∧ (-9223372036854775808 ≤ x.e ∧ x.e ≤ 9223372036854775807))
    (h : ∀ A' c' w', Own II.sh 126 w' gp (· < gp) (.slice A' (X.length + 1) c') (X ++ [x]) → (W.alloc (.cells #[.int .i64 x.o, .int .i64 x.a, .int .i64 x.b, .int .i64 x.c, .int .i64 x.d, .int .i64 x.e] 126)).grownBy w' (Value.slice VA X.length VC).ownBlock → wpList Try.prog ops Q rest (a.put o.dst (.slice A' (X.length + 1) c')) w') :
    wpList Try.prog ops Q (o :: rest) a (W.alloc (.cells #[.int .i64 x.o, .int .i64 x.a, .int .i64 x.b, .int .i64 x.c, .int .i64 x.d, .int .i64 x.e] 126)) := by
  obtain ⟨j0, hj, jz0, jz1, jz2⟩ := info_parts info_ins
  refine wpList_append_Own (S := II.sh) hgd s y 121 ho gp 126 j0 _ 48 Try.underlying121 hj jz0 jz1 jz2 rfl (by show 0 < 6; omega) (· < gp) (.slice VA X.length VC) X hs (hown.below (al _)) _ _ 1 1 _ _ [x] hy (Rd.one _ _ _ 6 rfl _ (by simp)) (by simp) rfl (Shp.all1 (II.intro (v := x) hx.1 hx.2.1 hx.2.2.1 hx.2.2.2.1 hx.2.2.2.2.1 hx.2.2.2.2.2)) (by unfold maxLen; omega) (by omega) (by simp; omega) ?_
  intro A5 c5 w5 h5 hg5 _
  exact h A5 c5 w5 h5 hg5
set_option maxHeartbeats 4000000 in
theorem round_any (A : Option Addr) (n c : Nat) (l : List II) (w : World) (h : InsR w w.heap.size A n l) (hg : Gd l) (hn : n ≤ 1000000) :
    Calls Try.prog 66 #[.slice A n c] w fun e w' => ∃ A' m c', e = .returned (.slice A' m c') ∧ InsM w' (fun b => w.heap.size ≤ b ∧ b < w'.heap.size) A' m (onceV l) ∧ CapR A' m c' ∧ Below w.heap.size w w' := by
  obtain ⟨j0, hj, jz0, jz1, jz2⟩ := info_parts info_ins
  have HI := Lib.hid h
  have HG := Lib.hid hg
  have HN := Lib.hid h.1
  clear h hg
  go_enter Try.func66, Try.ntmps66
  go_wp2_with fail
  generalize hgs : w.heap.size = gp at *
  have HGP := Lib.hid hgs
  have HBS := Lib.hid (show Below gp w w from Below.refl _ _)
  clear hgs
  go_loopw [12, 3] (fun i v wr => ∃ (q : Nat) (X : List II), q ≤ n ∧ i = .int .i64 (q : Int) ∧ Hid (X = (thread l).take q) ∧ Hid (Own II.sh 126 wr gp (· < gp) v X) ∧ Hid (Below gp w wr)) (fun i _ _ => n - (intOf i).toNat)
  case atStart => exact ⟨0, [], Nat.zero_le _, rfl, Lib.hid rfl, Own.nil, HBS⟩
  case round =>
    obtain ⟨q, X, hq, rfl, HXT, HOU, HBQ⟩ := hrel
    generalize wr = wo at *
    obtain ⟨VA, VC, hv⟩ := HOU.out.form
    subst hv
    have hXl : X.length = q := by rw [HXT.out, List.length_take, thread_len, ← HN.out]; omega
    by_cases hql : q < n
    · obtain ⟨x, hx⟩ : ∃ x, l[q]? = some x := ⟨_, List.getElem?_eq_getElem (by rw [← HN.out]; exact hql)⟩
      obtain ⟨b, off, hA, hb, e0, e1, e2, e3, e4, e5⟩ := (HI.out.below HBQ.out).at hx
      have HX := Lib.hid hx
      have HBD := Lib.hid (HI.out.bd (List.mem_of_getElem? hx))
      have HTG := Lib.hid (show tgV x = if tgtB x.o = true then some (tgtN x.o x.a x.b) else none from rfl)
      have HKS := Lib.hid (show (thread l).take (q + 1) = X ++ [thrI l x] by rw [List.take_add_one, thread_at, hx, HXT.out]; rfl)
      have hfl : X.length ≤ 1000000 := by omega
      have HXL := Lib.hid hXl
      subst hA
      obtain ⟨xo, xa, xb, xc, xd, xe⟩ := x
      simp only at e0 e1 e2 e3 e4 e5 HBD HTG
      have hgpw : gp ≤ wo.heap.size := by rw [← HGP.out]; exact HBQ.out.size
      have hbw : b < wo.heap.size := by omega
      have hqi : (q : Int) < (n : Int) := by omega
      clear hx hXl
      go_wp2_with fail
      refine Calls.mono (refTargetOf_any xo xa xb xc xd xe _) ?_
      rintro e w4 ⟨rfl, hb4⟩
      have HB4 := Lib.hid ((HBQ.out.alloc hgpw _).trans (hb4.mono (by simp; omega)))
      have hf4 := (hb4.block wo.heap.size (by simp)).trans (heap_alloc_new wo _)
      have HF4 := Lib.hid hf4
      have HO4 := Lib.hid ((HOU.out.below (al _)).below hb4)
      have hs4 : wo.heap.size < w4.heap.size := (Array.getElem?_eq_some_iff.1 hf4).1
      clear hb4 e0 e1 e2 e3 e4 e5
      have d0 : w4.cell? ⟨wo.heap.size, 0, none⟩ = some (.int .i64 xo) := by rw [Lib.cell_of_heap hf4]; rfl
      have d1 : w4.cell? ⟨wo.heap.size, 1, none⟩ = some (.int .i64 xa) := by rw [Lib.cell_of_heap hf4]; rfl
      have d2 : w4.cell? ⟨wo.heap.size, 2, none⟩ = some (.int .i64 xb) := by rw [Lib.cell_of_heap hf4]; rfl
      have d3 : w4.cell? ⟨wo.heap.size, 3, none⟩ = some (.int .i64 xc) := by rw [Lib.cell_of_heap hf4]; rfl
      have d4 : w4.cell? ⟨wo.heap.size, 4, none⟩ = some (.int .i64 xd) := by rw [Lib.cell_of_heap hf4]; rfl
      have d5 : w4.cell? ⟨wo.heap.size, 5, none⟩ = some (.int .i64 xe) := by rw [Lib.cell_of_heap hf4]; rfl
      clear hf4
      cases htb : tgtB xo with
      | false =>
        have HKE := Lib.hid (show (thread l).take (q + 1) = X ++ [⟨xo, xa, xb, xc, xd, xe⟩] by rw [HKS.out]; unfold thrI; rw [HTG.out, htb]; rfl)
        clear htb
        generalize tgtN xo xa xb = tn at *
        go_wp2_with (first
          | (at_builtin; refine append_ii w4 rfl _ _ rfl gp VA VC X ⟨xo, xa, xb, xc, xd, xe⟩ rfl rfl HO4.out (by have := hs4; omega) hfl HBD.out ?_; intro A5 c5 w5 hown5 hgrow5)
          | fail "no")
        have HO5 := Lib.hid hown5
        have HB5 := Lib.hid ((HB4.out.alloc (by have := hs4; omega) (.cells _ 126)).grown hgrow5 (by have := hs4; simp; omega) (fun z hz => (HOU.out.ownlt hz).1))
        clear hown5 hgrow5
        go_wp2_with fail
        go_roundw
        case rel => exact ⟨q + 1, _, by omega, by go_num, Lib.hid HKE.out.symm, HO5, HB5⟩
        case measure => simp [intOf]; omega
      | true =>
        have htg : tgV ⟨xo, xa, xb, xc, xd, xe⟩ = some (tgtN xo xa xb) := by rw [HTG.out, htb]; rfl
        have htl := HG.out.inb _ (List.mem_of_getElem? HX.out) _ htg
        obtain ⟨t, ht⟩ : ∃ t : Nat, tgtN xo xa xb = (t : Int) := ⟨(tgtN xo xa xb).toNat, by omega⟩
        rw [ht] at htl htg
        have htn : t < n := by have := HN.out; omega
        have HEV := Lib.hid (show endV l t ≤ 1000000 from by have := endV_lt HG.out.inb (p := t) (by rw [← HN.out]; exact htn); have := HN.out; omega)
        have HKE := Lib.hid (show (thread l).take (q + 1) = X ++ [⟨xo, aimA xo xa (endV l t : Int), aimB xo xb (endV l t : Int), xc, xd, xe⟩] by
          rw [HKS.out]
          congr 2
          unfold thrI
          rw [htg]
          simp only [Int.toNat_natCast, aimV_eq])
        have HXB := Lib.hid (show ∀ p : Nat, p ≤ 1000000 → (-9223372036854775808 ≤ xo ∧ xo ≤ 9223372036854775807) ∧ (-9223372036854775808 ≤ aimA xo xa (p : Int) ∧ aimA xo xa (p : Int) ≤ 9223372036854775807) ∧ (-9223372036854775808 ≤ aimB xo xb (p : Int) ∧ aimB xo xb (p : Int) ≤ 9223372036854775807) ∧ (-9223372036854775808 ≤ xc ∧ xc ≤ 9223372036854775807) ∧ (-9223372036854775808 ≤ xd ∧ xd ≤ 9223372036854775807) ∧ (-9223372036854775808 ≤ xe ∧ xe ≤ 9223372036854775807) from fun p hp => by
          have := HBD.out
          unfold aimA aimB
          split <;> omega)
        have HTH := Lib.hid (fun W (hW : Below w4.heap.size w4 W) => through_any (some ⟨b, off, none⟩) n c t l W ((HI.out.below (HB4.out.trans (hW.mono (by omega)))).more (by have := hW.size; omega)) HG.out.inb htn)
        clear htl htg htb
        generalize endV l t = ev at *
        rw [ht]
        clear ht
        go_wp2_with fail
        go_region_law (first
          | (go_simp; (go_at_call 105); refine (HTH.out _ (by first | exact (Below.refl _ _).drew | exact Below.refl _ _)).mono ?_; rintro e w5 ⟨rfl, hb5⟩; have hf5 := (hb5.block wo.heap.size hs4).trans HF4.out; have hs5 : wo.heap.size < w5.heap.size := (Array.getElem?_eq_some_iff.1 hf5).1; have d0 : w5.cell? ⟨wo.heap.size, 0, none⟩ = some (.int .i64 xo) := (by rw [Lib.cell_of_heap hf5]; rfl); have d1 : w5.cell? ⟨wo.heap.size, 1, none⟩ = some (.int .i64 xa) := (by rw [Lib.cell_of_heap hf5]; rfl); have d2 : w5.cell? ⟨wo.heap.size, 2, none⟩ = some (.int .i64 xb) := (by rw [Lib.cell_of_heap hf5]; rfl); have d3 : w5.cell? ⟨wo.heap.size, 3, none⟩ = some (.int .i64 xc) := (by rw [Lib.cell_of_heap hf5]; rfl); have d4 : w5.cell? ⟨wo.heap.size, 4, none⟩ = some (.int .i64 xd) := (by rw [Lib.cell_of_heap hf5]; rfl); have d5 : w5.cell? ⟨wo.heap.size, 5, none⟩ = some (.int .i64 xe) := (by rw [Lib.cell_of_heap hf5]; rfl))
          | (go_simp; (go_at_call 104); refine (turned_any xo xa xb xc xd xe (ev : Int) _).mono ?_; rintro e w6 ⟨rfl, hb6⟩; have hf6 := (hb6.block wo.heap.size hs5).trans hf5; have f0 := Lib.frozen_of_heap hf6 0; have f1 := Lib.frozen_of_heap hf6 1; have f2 := Lib.frozen_of_heap hf6 2; have f3 := Lib.frozen_of_heap hf6 3; have f4 := Lib.frozen_of_heap hf6 4; have f5 := Lib.frozen_of_heap hf6 5; have d0 : w6.cell? ⟨wo.heap.size, 0, none⟩ = some (.int .i64 xo) := (by rw [Lib.cell_of_heap hf6]; rfl); have d1 : w6.cell? ⟨wo.heap.size, 1, none⟩ = some (.int .i64 xa) := (by rw [Lib.cell_of_heap hf6]; rfl); have d2 : w6.cell? ⟨wo.heap.size, 2, none⟩ = some (.int .i64 xb) := (by rw [Lib.cell_of_heap hf6]; rfl); have d3 : w6.cell? ⟨wo.heap.size, 3, none⟩ = some (.int .i64 xc) := (by rw [Lib.cell_of_heap hf6]; rfl); have d4 : w6.cell? ⟨wo.heap.size, 4, none⟩ = some (.int .i64 xd) := (by rw [Lib.cell_of_heap hf6]; rfl); have d5 : w6.cell? ⟨wo.heap.size, 5, none⟩ = some (.int .i64 xe) := (by rw [Lib.cell_of_heap hf6]; rfl))
          | fail "no")
        all_goals (
          have hb5' : Below w4.heap.size w4 w5 := ⟨hb5.os, hb5.tape, hb5.output, hb5.size, hb5.block⟩
          have hb6' : Below w5.heap.size w5 w6 := ⟨hb6.os, hb6.tape, hb6.output, hb6.size, hb6.block⟩
          have HB56 := Lib.hid (sq hb5' hb6')
          have HB6 := Lib.hid (HB4.out.trans (HB56.out.mono (by omega)))
          have HO6 := Lib.hid (HO4.out.below HB56.out)
          have hs6 : wo.heap.size < w6.heap.size := (Array.getElem?_eq_some_iff.1 hf6).1
          have hvl : ∀ z, (Value.slice VA X.length VC).ownBlock = some z → z ≠ wo.heap.size := fun z hz => by have := (HOU.out.ownlt hz).2; omega
          obtain ⟨w7, hw7, b7, k7, s7, o7, t7, u7'⟩ := six_ex (.int .i64 xo) (.int .i64 (aimA xo xa (ev : Int))) (.int .i64 (aimB xo xb (ev : Int))) (.int .i64 xc) (.int .i64 xd) (.int .i64 xe) hf6
          rw [← hw7]
          have HO7 := Lib.hid (HO6.out.iiK (w' := w7) (by omega) (fun z hz => k7 z (hvl z hz)))
          have HB7 := Lib.hid (show Below gp w w7 from ⟨o7.trans HB6.out.os, t7.trans HB6.out.tape, u7'.trans HB6.out.output, by have := HB6.out.size; omega, fun z hz => (k7 z (by omega)).trans (HB6.out.block z hz)⟩)
          have hs7 : wo.heap.size < w7.heap.size := by omega
          clear hf5 hf6 hb5 hb6 hb5' hb6' d0 d1 d2 d3 d4 d5 f0 f1 f2 f3 f4 f5 hw7 k7 s7 o7 t7 u7' hvl
          have d0 : w7.cell? ⟨wo.heap.size, 0, none⟩ = some (.int .i64 xo) := by rw [Lib.cell_of_heap b7]; rfl
          have d1 : w7.cell? ⟨wo.heap.size, 1, none⟩ = some (.int .i64 (aimA xo xa (ev : Int))) := by rw [Lib.cell_of_heap b7]; rfl
          have d2 : w7.cell? ⟨wo.heap.size, 2, none⟩ = some (.int .i64 (aimB xo xb (ev : Int))) := by rw [Lib.cell_of_heap b7]; rfl
          have d3 : w7.cell? ⟨wo.heap.size, 3, none⟩ = some (.int .i64 xc) := by rw [Lib.cell_of_heap b7]; rfl
          have d4 : w7.cell? ⟨wo.heap.size, 4, none⟩ = some (.int .i64 xd) := by rw [Lib.cell_of_heap b7]; rfl
          have d5 : w7.cell? ⟨wo.heap.size, 5, none⟩ = some (.int .i64 xe) := by rw [Lib.cell_of_heap b7]; rfl
          clear b7
          go_wp2_with (first
            | (at_builtin; refine append_ii w7 rfl _ _ rfl gp VA VC X ⟨xo, aimA xo xa (ev : Int), aimB xo xb (ev : Int), xc, xd, xe⟩ rfl rfl HO7.out (by have := hs7; omega) hfl (HXB.out ev HEV.out) ?_; intro A5 c5 w5 hown5 hgrow5)
            | fail "no")
          have HO5 := Lib.hid hown5
          have HB5 := Lib.hid ((HB7.out.alloc (by have := hs7; omega) (.cells _ 126)).grown hgrow5 (by have := hs7; simp; omega) (fun z hz => (HOU.out.ownlt hz).1))
          clear hown5 hgrow5
          go_wp2_with fail
          go_roundw
          case rel => exact ⟨q + 1, _, by omega, by go_num, Lib.hid HKE.out.symm, HO5, HB5⟩
          case measure => simp [intOf]; omega)
    · obtain rfl : q = n := by omega
      have HXF := Lib.hid (show X = thread l by rw [HXT.out, List.take_of_length_le (by rw [thread_len, ← HN.out]; exact Nat.le_refl _)])
      obtain rfl := HXF.out
      rw [hXl] at HOU ⊢
      have HI3 := Lib.hid ((InsM.of_own HOU.out).r (B := wo.heap.size) fun b h => h.2)
      have HGA := Lib.hid HG.out.thread
      clear HXF HXT hXl HOU
      go_wp2_with fail
      refine Calls.mono (reached_any VA q VC (thread l) wo HI3.out HGA.out hn) ?_
      rintro e w3 ⟨g, rfl, hown, hb3⟩
      have HOS := Lib.hid hown
      have HB3 := Lib.hid (HBQ.out.trans (hb3.mono (by rw [← HGP.out]; exact HBQ.out.size)))
      have HI3 := Lib.hid (HI3.out.into (Nat.le_refl _) hb3)
      clear hown hb3
      go_wp2_with fail
      have hNA : q = (thread l).length := HI3.out.1
      refine Calls.mono (left1_any VA q VC w3.heap.size (thread l) (stayA (thread l)) _ (HI3.out.into (Nat.le_refl _) (al _)) HGA.out.inb hn (fun W hW k hk => by
        obtain ⟨b, hb⟩ : ∃ b, (seenV (thread l))[k]? = some b := ⟨_, List.getElem?_eq_getElem (by rw [seen_len, ← hNA]; exact hk)⟩
        have e : stayA (thread l) k = b := by unfold stayA; rw [hb]; rfl
        rw [e]
        have hc := own1_cell (k := k) HOS.out (u := .bool b) (by rw [List.getElem?_map, hb]; rfl)
        refine round1_any w3.heap.size g q k b W ?_ hk ?_
        · exact (hW.cell (p := ⟨w3.heap.size, 0, none⟩) (by simp)).trans (by simp [go_sem])
        · exact (hW.cell (p := ⟨g, k, none⟩) (by have := hc.2.2.2; simp; omega)).trans ((World.cell?_alloc_lt _ _ _ hc.2.2.2).trans hc.1))) ?_
      rintro e w4 ⟨A2, m, c2, rfl, h4', _, hb4⟩
      have h4 := h4'.r (B := w4.heap.size) fun b hb => hb.2
      have HGB := Lib.hid HGA.out.keepA
      have HB4 := Lib.hid (HB3.out.trans (((al _).trans (hb4.mono (by simp))).mono (by rw [← HGP.out]; exact HB3.out.size)))
      have hm : m ≤ 1000000 := by rw [h4.1, keep_len]; exact Nat.le_trans (cq_le _ _) (by rw [← hNA]; exact hn)
      have HON := Lib.hid (show onceV l = keepV (keepV (thread l) (stayA (thread l))) (stayB (keepV (thread l) (stayA (thread l)))) from rfl)
      have HI4 := Lib.hid h4
      have hz4 : gp ≤ w4.heap.size := by rw [← HGP.out]; exact HB4.out.size
      clear hb4 h4 h4'
      generalize keepV (thread l) (stayA (thread l)) = bl at *
      go_wp2_with fail
      refine Calls.mono (left2_any A2 m c2 w4.heap.size bl (stayB bl) _ (HI4.out.into (Nat.le_refl _) (al _)) HGB.out.inb hm (fun W hW k hk => ?_)) ?_
      · refine round2_any w4.heap.size m c2 k A2 bl W ?_ hk ((HI4.out.into (Nat.le_refl _) (al _)).into (Nat.le_refl _) hW) hm
        exact (hW.cell (p := ⟨w4.heap.size, 0, none⟩) (by simp)).trans (by simp [go_sem])
      rintro e w6 ⟨A3, m3, c3, rfl, h6, hc6, hb6⟩
      have HB6 := Lib.hid (HB4.out.trans (((al _).trans (hb6.mono (by simp))).mono hz4))
      have HI6 := Lib.hid (h6.more (M' := fun b => gp ≤ b ∧ b < w6.heap.size) fun b hb => ⟨by have := hb.1; simp at this; omega, hb.2⟩)
      clear hb6 h6
      go_wp2_with fail
      go_ret
      exact ⟨A3, m3, c3, rfl, by rw [HON.out, HGP.out]; exact HI6.out, hc6, by rw [HGP.out]; exact HB6.out⟩
end Go.Proofs.Ytapbdfcihheecaa
