/- The document's Alloc. Conditions: none. -/
import Derived.Test.YthogfcdgbodccaaHqG
import Derived.Deep.CutRange
set_option maxRecDepth 100000
namespace Go.Proofs.Ythogfcdgbodccaa
open Go.ChangeShapes Go.WideShapes Go.ChangeAt Go.RowKit
theorem blL_one {w : World} {M : Nat → Prop} {bs : List BK} {ds : List Value} (h : BkM w M bs ds) : ∀ u ∈ blL bs ds, u.oneCell' = true := by
  intro u hu
  unfold blL at hu
  obtain ⟨c, hc, hu⟩ := List.mem_flatten.1 hu
  obtain ⟨i, hi, rfl⟩ := List.mem_iff_getElem.1 hc
  rw [List.getElem_zipWith] at hu
  have hi' : i < bs.length ∧ i < ds.length := by rw [List.length_zipWith] at hi; omega
  obtain ⟨A, c', e⟩ := own_form (h.cr i _ _ (List.getElem?_eq_getElem hi'.1) (List.getElem?_eq_getElem hi'.2))
  simp [blC] at hu
  rcases hu with rfl | rfl | rfl
  · rfl
  · rfl
  · rw [e]; rfl
theorem blL_subs {bs : List BK} {ds : List Value} (hl : ds.length = bs.length) (h : ∀ u ∈ blL bs ds, u.oneCell' = true) (i : Nat) : (∀ u ∈ blL (bs.take i) (ds.take i), u.oneCell' = true) ∧ ∀ u ∈ blL (bs.drop i) (ds.drop i), u.oneCell' = true := by
  rw [blL_split hl i] at h
  exact ⟨fun u hu => h u (List.mem_append_left _ hu), fun u hu => h u (List.mem_append_right _ hu)⟩
theorem made_own {base : Nat} (n : Nat) (hn : n ≤ 4000) (w : World) (hb : base ≤ w.heap.size) : (w.alloc (.cells (madeCells #[Value.int .i64 0, .int .i64 0] (n * 2)) 36)).ownsRow base 36 2 (.slice (some ⟨w.heap.size, 0, none⟩) n n) n (ceL (List.replicate n (0, 0))) :=
  ⟨by rw [ceL_len]; simp, .inr ⟨w.heap.size, n, _, rfl, hb, heap_alloc_new w _, Nat.le_refl _, by unfold maxLen; omega, by simp [madeCells], by rw [made_cells, List.take_of_length_le (by rw [ceL_len]; simp)]⟩⟩
def AlP (w : World) (M : Nat → Prop) (Q room : Nat) (r : Int × Int × List BK) (e : Ending) (w' : World) : Prop := e = .returned (.tuple #[.int .i64 r.1, .int .i64 r.2.1]) ∧ SM w' (fun k => M k ∨ w.heap.size ≤ k) Q room r.2.2 ∧ Ke M w w'
set_option maxHeartbeats 16000000 in
theorem refAlloc_in {w : World} {M : Nat → Prop} {Q room : Nat} {bs : List BK} (h : SM w M Q room bs) (sh : Int) (n : Nat) (h63 : room ≤ 4000) (hs : 1 ≤ sh ∧ sh ≤ 4) (hn : n ≤ 300) :
    Calls Try.prog 19 #[.pointer (some ⟨Q, 0, none⟩), .int .i64 sh, .int .i64 (n : Int)] w (AlP w M Q room (alR bs room sh n)) := by
  obtain ⟨bv, ds, h⟩ := h
  have HC := Lib.hid h
  have HL := Lib.hid (bs_len h.fit)
  have HF := Lib.hid h.fit
  have HR := Lib.hid (show ∀ r, insB sh n 0 bs room = r → alR bs room sh n = (match r with | none => (0, 15, bs) | some p => ((p.1 : Int), 0, p.2)) from fun r hr => by
    unfold alR
    rw [if_neg (by omega), if_neg (by omega), Int.toNat_natCast, hr]
    cases r <;> rfl)
  have HONE := Lib.hid (show ∀ i, (∀ u ∈ blL (bs.take i) (ds.take i), u.oneCell' = true) ∧ ∀ u ∈ blL (bs.drop i) (ds.drop i), u.oneCell' = true from blL_subs h.bk.len (blL_one h.bk))
  obtain ⟨d0, d1⟩ := h.boxc
  obtain ⟨A1, n1, rfl⟩ := own_form h.row
  have HCAP := Lib.hid (own_cap h.row)
  have hbl := HL.out
  obtain ⟨i0, ki, kz0, kz1, kz2⟩ := info_parts info_bk
  clear h
  have hs0 : ¬ sh < 1 := by omega
  have hs4 : ¬ 4 < sh := by omega
  have hn0 : ¬ (n : Int) < 0 := by omega
  have hn3 : ¬ 300 < (n : Int) := by omega
  go_enter Try.func19, Try.ntmps19
  go_wp2_with fail
  go_loopw [8, 9] (fun f v wr => ∃ (i fr : Nat), f = .int .i64 (fr : Int) ∧ v = .int .i64 (i : Int) ∧ Hid (i ≤ bs.length + 1) ∧ Hid (i ≤ bs.length → DI sh n bs room i fr) ∧ Hid (bs.length < i → insB sh n 0 bs room = none) ∧ w = wr) (fun _ v _ => bs.length + 1 - (intOf v).toNat)
  case atStart => exact ⟨0, 0, rfl, rfl, Lib.hid (Nat.zero_le _), Lib.hid (fun _ => DI.start HF.out), Lib.hid (fun h => by omega), rfl⟩
  case round =>
    obtain ⟨i, fr, rfl, rfl, HI, HD, HZ, rfl⟩ := hrel
    by_cases hlt : (i : Int) ≤ (bs.length : Int)
    · have HDI := Lib.hid (HD.out (by omega))
      have hfr := HDI.out.room
      by_cases hlt2 : (i : Int) < (bs.length : Int)
      · obtain ⟨b, hb⟩ : ∃ b, bs[i]? = some b := ⟨_, List.getElem?_eq_getElem (by omega)⟩
        obtain ⟨R, nR, d, e1, hd, hRl, c0, c1, c2⟩ := HC.out.at_ hb
        injection e1 with e1 _ e2
        subst e1 e2
        obtain ⟨D, cd, rfl⟩ := own_form (HC.out.bk.cr i b d hb hd)
        have hbf := (HF.out.ge b (List.mem_of_getElem? hb)).2
        have hfin : b.fin = b.at_ + 1 + b.cells.length := rfl
        have HBI := Lib.hid hb
        have hw1 : IntKind.i64.wrap ((b.at_ : Int) - (fr : Int)) = (b.at_ : Int) - (fr : Int) := IntWalk.i64_in _ (by omega)
        by_cases hfd : (n : Int) < (b.at_ : Int) - (fr : Int)
        · have HIN := Lib.hid (HDI.out.found hb (by omega))
          have hn1 : ¬ n1 = 0 := by have := HCAP.out.1; omega
          have hin1 : i ≤ n1 := by have := HCAP.out.1; omega
          have hin2 : ¬ n1 = i := by have := HCAP.out.1; omega
          have hin3 : i ≤ bs.length := by omega
          clear hb hd hbf hfin
          generalize hbn : bs.length = N at *
          have HBN := Lib.hid hbn
          clear hbn
          have HIN2 := Lib.hid (insB_fit HF.out HIN.out)
          have hmm := make_cl n (by omega)
          have hfi := HIN2.out.2.2
          have HB2 := Lib.hid (sq (al (w := w) (.cells (madeCells #[Value.int .i64 0, .int .i64 0] (n * 2)) 36)) (al (.cells #[.int .i64 (fr : Int), .int .i64 sh, .slice (some ⟨w.heap.size, 0, none⟩) n n] 64)))
          have HD2 := Lib.hid ((made_own (base := w.heap.size) n (by omega) w (Nat.le_refl _)).alloc (.cells #[.int .i64 (fr : Int), .int .i64 sh, .slice (some ⟨w.heap.size, 0, none⟩) n n] 64))
          have HX2 := Lib.hid (show ((w.alloc (.cells (madeCells #[Value.int .i64 0, .int .i64 0] (n * 2)) 36)).alloc (.cells #[.int .i64 (fr : Int), .int .i64 sh, .slice (some ⟨w.heap.size, 0, none⟩) n n] 64)).heap[w.heap.size + 1]? = some (.cells #[.int .i64 (fr : Int), .int .i64 sh, .slice (some ⟨w.heap.size, 0, none⟩) n n] 64 (0, 0)) from heap_at _ (by simp))
          have HC2 := Lib.hid (HC.out.below HB2.out)
          have q2 := (HB2.out.cell (p := ⟨Q, 1, none⟩) HC.out.lt).trans d1
          have HLT := Lib.hid (show w.heap.size + 2 ≤ ((w.alloc (.cells (madeCells #[Value.int .i64 0, .int .i64 0] (n * 2)) 36)).alloc (.cells #[.int .i64 (fr : Int), .int .i64 sh, .slice (some ⟨w.heap.size, 0, none⟩) n n] 64)).heap.size by simp)
          go_upto_region 17 with (fail)
          generalize (w.alloc (.cells (madeCells #[Value.int .i64 0, .int .i64 0] (n * 2)) 36)).alloc (.cells #[.int .i64 (fr : Int), .int .i64 sh, .slice (some ⟨w.heap.size, 0, none⟩) n n] 64) = w2 at *
          go_upto_region 18 with (at_builtin; (refine wpList_append_rd _ rfl _ _ 41 rfl w2.heap.size 64 i0 _ 3 40 Try.underlying41 ki kz0 kz1 kz2 rfl (by omega) (.slice none 0 0) 0 [] rfl (World.ownsRow_nil _ _ _ _) w2.heap.size _ i _ (blL (bs.take i) (ds.take i)) rfl ((show SPc w2 M Q room bs (.slice (some ⟨R, 0, none⟩) bs.length n1) ds by rw [HBN.out]; exact HC2.out).front (by rw [HBN.out]; exact hin3)) (HONE.out _).1 (by unfold maxLen; omega) (by omega) (Nat.le_refl _) ?_; intro A3 c3 w3 hown3 hgrow3 _; have HB3 := Lib.hid ((Below.refl w2.heap.size w2).grown hgrow3 (Nat.le_refl _) (fun q e => by cases e)); have b0 := (HB3.out.cell (p := ⟨w.heap.size + 1, 0, none⟩) (show w.heap.size + 1 < w2.heap.size by have := HLT.out; omega)).trans (Lib.cell_of_heap HX2.out 0); have b1 := (HB3.out.cell (p := ⟨w.heap.size + 1, 1, none⟩) (show w.heap.size + 1 < w2.heap.size by have := HLT.out; omega)).trans (Lib.cell_of_heap HX2.out 1); have b2 := (HB3.out.cell (p := ⟨w.heap.size + 1, 2, none⟩) (show w.heap.size + 1 < w2.heap.size by have := HLT.out; omega)).trans (Lib.cell_of_heap HX2.out 2); have HO3 := Lib.hid (show w3.ownsRow w2.heap.size 64 3 (.slice A3 i c3) i (blL (bs.take i) (ds.take i)) by simpa using hown3)))
          have HC3 := Lib.hid (HC2.out.below HB3.out)
          have q3 := (HB3.out.cell (p := ⟨Q, 1, none⟩) (Nat.lt_of_lt_of_le HC.out.lt HB2.out.size)).trans q2
          clear hown3 hgrow3 q2
          go_upto_region 19 with (at_builtin; (refine wpList_append_rd _ rfl _ _ 41 rfl w2.heap.size 64 i0 _ 3 40 Try.underlying41 ki kz0 kz1 kz2 rfl (by omega) (.slice A3 i c3) i (blL (bs.take i) (ds.take i)) rfl (HO3.out.alloc _) _ _ 1 1 [.int .i64 (fr : Int), .int .i64 sh, .slice (some ⟨w.heap.size, 0, none⟩) n n] rfl (Rd.one _ _ _ 3 rfl _ (by simp)) (by intro u hu; simp at hu; rcases hu with rfl | rfl | rfl <;> rfl) (by unfold maxLen; omega) (by omega) (by have := HB3.out.size; simp; omega) ?_; intro A5 c5 w5 hown5 hgrow5 _; have HB5 := Lib.hid (((HB3.out.alloc HB3.out.size _).grown hgrow5 (by have := HB3.out.size; simp; omega) (fun q hq => (HO3.out.lt q hq).1))); have HO5 := Lib.hid hown5; have q5 := (HB5.out.cell (p := ⟨Q, 1, none⟩) (Nat.lt_of_lt_of_le HC.out.lt HB2.out.size)).trans ((HB2.out.cell (p := ⟨Q, 1, none⟩) HC.out.lt).trans d1)))
          have HC5 := Lib.hid (HC2.out.below HB5.out)
          clear hown5 hgrow5 q3 b0 b1 b2
          go_wp2_with (at_builtin; go_must  (refine wpList_append_rd _ rfl _ _ 41 rfl w2.heap.size 64 i0 _ 3 40 Try.underlying41 ki kz0 kz1 kz2 rfl (by omega) (.slice A5 (i + 1) c5) (i + 1) _ rfl HO5.out w5.heap.size (some ⟨R, i * 3, none⟩) (N - i) _ (blL (bs.drop i) (ds.drop i)) rfl (by rw [← HBN.out]; exact (show SPc w5 M Q room bs (.slice (some ⟨R, 0, none⟩) bs.length n1) ds by rw [HBN.out]; exact HC5.out).back (by rw [HBN.out]; exact hin3) _ (.inl rfl)) (HONE.out _).2 (by unfold maxLen; omega) (by omega) (by exact HB5.out.size) ?_; intro A6 c6 w6 hown6 hgrow6 _; have HB6 := Lib.hid (HB5.out.grown hgrow6 HB5.out.size (fun q hq => (HO5.out.lt q hq).1)); have HO6 := Lib.hid hown6; have q6 := (HB6.out.cell (p := ⟨Q, 1, none⟩) (Nat.lt_of_lt_of_le HC.out.lt HB2.out.size)).trans ((HB2.out.cell (p := ⟨Q, 1, none⟩) HC.out.lt).trans d1); have f6 : w6.frozen? ⟨Q, 1, none⟩ = false := (HB6.out.frozen (p := ⟨Q, 1, none⟩) (Nat.lt_of_lt_of_le HC.out.lt HB2.out.size)).trans ((HB2.out.frozen (p := ⟨Q, 1, none⟩) HC.out.lt).trans (Lib.frozen_of_heap HC.out.box 1))))
          go_returns
          have hNN : i + 1 + (N - i) = N + 1 := by omega
          have ho6 := HO6.out
          rw [hNN] at ho6 ⊢
          have h9 := (show SPc w M Q room bs (.slice (some ⟨R, 0, none⟩) bs.length n1) ds by rw [HBN.out]; exact HC.out).inserted (b := ⟨fr, sh, List.replicate n (0, 0)⟩) (i := i) (n := n) (by rw [HBN.out]; exact hin3) rfl HIN2.out.1 (by simp) HD2.out HB2.out HB6.out (by rw [HBN.out]; exact ho6)
          rw [HBN.out] at h9
          unfold AlP
          rw [HR.out _ HIN.out]
          exact ⟨rfl, ⟨_, _, h9.1⟩, h9.2⟩
        · have HNX := Lib.hid (HDI.out.next hb (by omega))
          have hw2 : IntKind.i64.wrap ((b.at_ : Int) + 1) = (b.at_ : Int) + 1 := IntWalk.i64_in _ (by omega)
          have hw3 : IntKind.i64.wrap ((b.at_ : Int) + 1 + (b.cells.length : Int)) = (b.fin : Int) := by rw [show (b.at_ : Int) + 1 + (b.cells.length : Int) = (b.fin : Int) by omega]; exact IntWalk.i64_in _ (by omega)
          clear hb hd hbf hfin
          generalize b.fin = fin at *
          generalize b.cells.length = bl at *
          go_wp2_with fail
          exact ⟨⟨i + 1, fin, rfl, by simp, Lib.hid (by omega), Lib.hid (fun _ => HNX.out.2.2), Lib.hid (fun h => by omega), trivial⟩, by simp [intOf]; omega⟩
      · have hiN : i = bs.length := by omega
        have HIE := Lib.hid hiN
        have HDI2 := Lib.hid (show DI sh n bs room bs.length fr by rw [← hiN]; exact HDI.out)
        have hw1 : IntKind.i64.wrap ((room : Int) - (fr : Int)) = (room : Int) - (fr : Int) := IntWalk.i64_in _ (by omega)
        by_cases hfd : (n : Int) < (room : Int) - (fr : Int)
        · have HIN := Lib.hid (show insB sh n 0 bs room = some (fr, bs.take i ++ [⟨fr, sh, List.replicate n (0, 0)⟩] ++ bs.drop i) by rw [hiN]; exact HDI2.out.last (by omega))
          have hin3 : i ≤ bs.length := by omega
          rcases A1 with _ | a
          · have hb0 : bs.length = 0 := by
              rcases HC.out.row.2 with ⟨_, e⟩ | ⟨_, _, _, e, _⟩
              · exact e
              · injection e with e; cases e
            have hn0' : n1 = 0 := by
              rcases HC.out.row.2 with ⟨e, _⟩ | ⟨_, _, _, e, _⟩
              · injection e
              · injection e with e; cases e
            obtain rfl : i = 0 := by omega
            subst hn0'
            have HNIL := Lib.hid (show blL (bs.drop 0) (ds.drop 0) = [] by rw [List.eq_nil_of_length_eq_zero hb0]; rfl)
            have HBN := Lib.hid hb0
            have hin3 : 0 ≤ 0 := Nat.le_refl _
            clear hiN hlt hlt2
            rw [hb0] at d1 ⊢
            rw [hb0] at HC
            clear hb0
            have HIN2 := Lib.hid (insB_fit HF.out HIN.out)
            have hmm := make_cl n (by omega)
            have hfi := HIN2.out.2.2
            have HB2 := Lib.hid (sq (al (w := w) (.cells (madeCells #[Value.int .i64 0, .int .i64 0] (n * 2)) 36)) (al (.cells #[.int .i64 (fr : Int), .int .i64 sh, .slice (some ⟨w.heap.size, 0, none⟩) n n] 64)))
            have HD2 := Lib.hid ((made_own (base := w.heap.size) n (by omega) w (Nat.le_refl _)).alloc (.cells #[.int .i64 (fr : Int), .int .i64 sh, .slice (some ⟨w.heap.size, 0, none⟩) n n] 64))
            have HX2 := Lib.hid (show ((w.alloc (.cells (madeCells #[Value.int .i64 0, .int .i64 0] (n * 2)) 36)).alloc (.cells #[.int .i64 (fr : Int), .int .i64 sh, .slice (some ⟨w.heap.size, 0, none⟩) n n] 64)).heap[w.heap.size + 1]? = some (.cells #[.int .i64 (fr : Int), .int .i64 sh, .slice (some ⟨w.heap.size, 0, none⟩) n n] 64 (0, 0)) from heap_at _ (by simp))
            have HC2 := Lib.hid (HC.out.below HB2.out)
            have q2 := (HB2.out.cell (p := ⟨Q, 1, none⟩) HC.out.lt).trans d1
            have HLT := Lib.hid (show w.heap.size + 2 ≤ ((w.alloc (.cells (madeCells #[Value.int .i64 0, .int .i64 0] (n * 2)) 36)).alloc (.cells #[.int .i64 (fr : Int), .int .i64 sh, .slice (some ⟨w.heap.size, 0, none⟩) n n] 64)).heap.size by simp)
            go_upto_region 17 with (fail)
            generalize (w.alloc (.cells (madeCells #[Value.int .i64 0, .int .i64 0] (n * 2)) 36)).alloc (.cells #[.int .i64 (fr : Int), .int .i64 sh, .slice (some ⟨w.heap.size, 0, none⟩) n n] 64) = w2 at *
            go_upto_region 18 with (at_builtin; (refine wpList_append_rd _ rfl _ _ 41 rfl w2.heap.size 64 i0 _ 3 40 Try.underlying41 ki kz0 kz1 kz2 rfl (by omega) (.slice none 0 0) 0 [] rfl (World.ownsRow_nil _ _ _ _) w2.heap.size _ 0 _ (blL (bs.take 0) (ds.take 0)) rfl ((show SPc w2 M Q room bs (.slice none bs.length 0) ds by rw [HBN.out]; exact HC2.out).front (by rw [HBN.out]; exact hin3)) (HONE.out _).1 (by unfold maxLen; omega) (by omega) (Nat.le_refl _) ?_; intro A3 c3 w3 hown3 hgrow3 _; have HB3 := Lib.hid ((Below.refl w2.heap.size w2).grown hgrow3 (Nat.le_refl _) (fun q e => by cases e)); have b0 := (HB3.out.cell (p := ⟨w.heap.size + 1, 0, none⟩) (show w.heap.size + 1 < w2.heap.size by have := HLT.out; omega)).trans (Lib.cell_of_heap HX2.out 0); have b1 := (HB3.out.cell (p := ⟨w.heap.size + 1, 1, none⟩) (show w.heap.size + 1 < w2.heap.size by have := HLT.out; omega)).trans (Lib.cell_of_heap HX2.out 1); have b2 := (HB3.out.cell (p := ⟨w.heap.size + 1, 2, none⟩) (show w.heap.size + 1 < w2.heap.size by have := HLT.out; omega)).trans (Lib.cell_of_heap HX2.out 2); have HO3 := Lib.hid (show w3.ownsRow w2.heap.size 64 3 (.slice A3 0 c3) 0 (blL (bs.take 0) (ds.take 0)) by simpa using hown3)))
            have HC3 := Lib.hid (HC2.out.below HB3.out)
            have q3 := (HB3.out.cell (p := ⟨Q, 1, none⟩) (Nat.lt_of_lt_of_le HC.out.lt HB2.out.size)).trans q2
            clear hown3 hgrow3 q2
            go_upto_region 19 with (at_builtin; (refine wpList_append_rd _ rfl _ _ 41 rfl w2.heap.size 64 i0 _ 3 40 Try.underlying41 ki kz0 kz1 kz2 rfl (by omega) (.slice A3 0 c3) 0 (blL (bs.take 0) (ds.take 0)) rfl (HO3.out.alloc _) _ _ 1 1 [.int .i64 (fr : Int), .int .i64 sh, .slice (some ⟨w.heap.size, 0, none⟩) n n] rfl (Rd.one _ _ _ 3 rfl _ (by simp)) (by intro u hu; simp at hu; rcases hu with rfl | rfl | rfl <;> rfl) (by unfold maxLen; omega) (by omega) (by have := HB3.out.size; simp; omega) ?_; intro A5 c5 w5 hown5 hgrow5 _; have HB5 := Lib.hid (((HB3.out.alloc HB3.out.size _).grown hgrow5 (by have := HB3.out.size; simp; omega) (fun q hq => (HO3.out.lt q hq).1))); have HO5 := Lib.hid hown5; have q5 := (HB5.out.cell (p := ⟨Q, 1, none⟩) (Nat.lt_of_lt_of_le HC.out.lt HB2.out.size)).trans ((HB2.out.cell (p := ⟨Q, 1, none⟩) HC.out.lt).trans d1)))
            have HC5 := Lib.hid (HC2.out.below HB5.out)
            clear hown5 hgrow5 q3 b0 b1 b2
            go_wp2_with (at_builtin; go_must  (refine wpList_append_rd _ rfl _ _ 41 rfl w2.heap.size 64 i0 _ 3 40 Try.underlying41 ki kz0 kz1 kz2 rfl (by omega) (.slice A5 (0 + 1) c5) (0 + 1) _ rfl HO5.out w5.heap.size none (0 - 0) _ (blL (bs.drop 0) (ds.drop 0)) rfl (by rw [HNIL.out]; exact Rd.nil) (HONE.out _).2 (by unfold maxLen; omega) (by omega) (by exact HB5.out.size) ?_; intro A6 c6 w6 hown6 hgrow6 _; have HB6 := Lib.hid (HB5.out.grown hgrow6 HB5.out.size (fun q hq => (HO5.out.lt q hq).1)); have HO6 := Lib.hid hown6; have q6 := (HB6.out.cell (p := ⟨Q, 1, none⟩) (Nat.lt_of_lt_of_le HC.out.lt HB2.out.size)).trans ((HB2.out.cell (p := ⟨Q, 1, none⟩) HC.out.lt).trans d1); have f6 : w6.frozen? ⟨Q, 1, none⟩ = false := (HB6.out.frozen (p := ⟨Q, 1, none⟩) (Nat.lt_of_lt_of_le HC.out.lt HB2.out.size)).trans ((HB2.out.frozen (p := ⟨Q, 1, none⟩) HC.out.lt).trans (Lib.frozen_of_heap HC.out.box 1))))
            go_returns
            have hNN : 0 + 1 + (0 - 0) = 0 + 1 := by omega
            have ho6 := HO6.out
            skip
            have h9 := (show SPc w M Q room bs (.slice none bs.length 0) ds by rw [HBN.out]; exact HC.out).inserted (b := ⟨fr, sh, List.replicate n (0, 0)⟩) (i := 0) (n := n) (by rw [HBN.out]; exact hin3) rfl HIN2.out.1 (by simp) HD2.out HB2.out HB6.out (by rw [HBN.out]; exact ho6)
            rw [HBN.out] at h9
            unfold AlP
            rw [HR.out _ HIN.out]
            exact ⟨rfl, ⟨_, _, h9.1⟩, h9.2⟩
          · obtain ⟨R, _, e, _⟩ : ∃ R c', (Value.slice (some a) bs.length n1) = .slice (some ⟨R, 0, none⟩) bs.length c' ∧ True := by
              rcases HC.out.row.2 with ⟨e, _⟩ | ⟨g, c', _, e, _⟩
              · injection e with e; cases e
              · exact ⟨g, c', e, trivial⟩
            injection e with e _ _
            injection e with e
            subst e
            by_cases hn1 : n1 = 0
            · have hb0 : bs.length = 0 := by have := HCAP.out.1; omega
              have := HC.out.nz hb0
              injection this with this
              cases this
            · have hin1 : i ≤ n1 := by have := HCAP.out.1; omega
              clear hiN
              generalize hbn : bs.length = N at *
              have HBN := Lib.hid hbn
              clear hbn
              by_cases hin2 : n1 = i
              · have hin4 := trivial
                have HIN2 := Lib.hid (insB_fit HF.out HIN.out)
                have hmm := make_cl n (by omega)
                have hfi := HIN2.out.2.2
                have HB2 := Lib.hid (sq (al (w := w) (.cells (madeCells #[Value.int .i64 0, .int .i64 0] (n * 2)) 36)) (al (.cells #[.int .i64 (fr : Int), .int .i64 sh, .slice (some ⟨w.heap.size, 0, none⟩) n n] 64)))
                have HD2 := Lib.hid ((made_own (base := w.heap.size) n (by omega) w (Nat.le_refl _)).alloc (.cells #[.int .i64 (fr : Int), .int .i64 sh, .slice (some ⟨w.heap.size, 0, none⟩) n n] 64))
                have HX2 := Lib.hid (show ((w.alloc (.cells (madeCells #[Value.int .i64 0, .int .i64 0] (n * 2)) 36)).alloc (.cells #[.int .i64 (fr : Int), .int .i64 sh, .slice (some ⟨w.heap.size, 0, none⟩) n n] 64)).heap[w.heap.size + 1]? = some (.cells #[.int .i64 (fr : Int), .int .i64 sh, .slice (some ⟨w.heap.size, 0, none⟩) n n] 64 (0, 0)) from heap_at _ (by simp))
                have HC2 := Lib.hid (HC.out.below HB2.out)
                have q2 := (HB2.out.cell (p := ⟨Q, 1, none⟩) HC.out.lt).trans d1
                have HLT := Lib.hid (show w.heap.size + 2 ≤ ((w.alloc (.cells (madeCells #[Value.int .i64 0, .int .i64 0] (n * 2)) 36)).alloc (.cells #[.int .i64 (fr : Int), .int .i64 sh, .slice (some ⟨w.heap.size, 0, none⟩) n n] 64)).heap.size by simp)
                go_upto_region 17 with (fail)
                generalize (w.alloc (.cells (madeCells #[Value.int .i64 0, .int .i64 0] (n * 2)) 36)).alloc (.cells #[.int .i64 (fr : Int), .int .i64 sh, .slice (some ⟨w.heap.size, 0, none⟩) n n] 64) = w2 at *
                go_upto_region 18 with (at_builtin; (refine wpList_append_rd _ rfl _ _ 41 rfl w2.heap.size 64 i0 _ 3 40 Try.underlying41 ki kz0 kz1 kz2 rfl (by omega) (.slice none 0 0) 0 [] rfl (World.ownsRow_nil _ _ _ _) w2.heap.size _ i _ (blL (bs.take i) (ds.take i)) rfl ((show SPc w2 M Q room bs (.slice (some ⟨R, 0, none⟩) bs.length n1) ds by rw [HBN.out]; exact HC2.out).front (by rw [HBN.out]; exact hin3)) (HONE.out _).1 (by unfold maxLen; omega) (by omega) (Nat.le_refl _) ?_; intro A3 c3 w3 hown3 hgrow3 _; have HB3 := Lib.hid ((Below.refl w2.heap.size w2).grown hgrow3 (Nat.le_refl _) (fun q e => by cases e)); have b0 := (HB3.out.cell (p := ⟨w.heap.size + 1, 0, none⟩) (show w.heap.size + 1 < w2.heap.size by have := HLT.out; omega)).trans (Lib.cell_of_heap HX2.out 0); have b1 := (HB3.out.cell (p := ⟨w.heap.size + 1, 1, none⟩) (show w.heap.size + 1 < w2.heap.size by have := HLT.out; omega)).trans (Lib.cell_of_heap HX2.out 1); have b2 := (HB3.out.cell (p := ⟨w.heap.size + 1, 2, none⟩) (show w.heap.size + 1 < w2.heap.size by have := HLT.out; omega)).trans (Lib.cell_of_heap HX2.out 2); have HO3 := Lib.hid (show w3.ownsRow w2.heap.size 64 3 (.slice A3 i c3) i (blL (bs.take i) (ds.take i)) by simpa using hown3)))
                have HC3 := Lib.hid (HC2.out.below HB3.out)
                have q3 := (HB3.out.cell (p := ⟨Q, 1, none⟩) (Nat.lt_of_lt_of_le HC.out.lt HB2.out.size)).trans q2
                clear hown3 hgrow3 q2
                go_upto_region 19 with (at_builtin; (refine wpList_append_rd _ rfl _ _ 41 rfl w2.heap.size 64 i0 _ 3 40 Try.underlying41 ki kz0 kz1 kz2 rfl (by omega) (.slice A3 i c3) i (blL (bs.take i) (ds.take i)) rfl (HO3.out.alloc _) _ _ 1 1 [.int .i64 (fr : Int), .int .i64 sh, .slice (some ⟨w.heap.size, 0, none⟩) n n] rfl (Rd.one _ _ _ 3 rfl _ (by simp)) (by intro u hu; simp at hu; rcases hu with rfl | rfl | rfl <;> rfl) (by unfold maxLen; omega) (by omega) (by have := HB3.out.size; simp; omega) ?_; intro A5 c5 w5 hown5 hgrow5 _; have HB5 := Lib.hid (((HB3.out.alloc HB3.out.size _).grown hgrow5 (by have := HB3.out.size; simp; omega) (fun q hq => (HO3.out.lt q hq).1))); have HO5 := Lib.hid hown5; have q5 := (HB5.out.cell (p := ⟨Q, 1, none⟩) (Nat.lt_of_lt_of_le HC.out.lt HB2.out.size)).trans ((HB2.out.cell (p := ⟨Q, 1, none⟩) HC.out.lt).trans d1)))
                have HC5 := Lib.hid (HC2.out.below HB5.out)
                clear hown5 hgrow5 q3 b0 b1 b2
                go_wp2_with (at_builtin; go_must  (refine wpList_append_rd _ rfl _ _ 41 rfl w2.heap.size 64 i0 _ 3 40 Try.underlying41 ki kz0 kz1 kz2 rfl (by omega) (.slice A5 (i + 1) c5) (i + 1) _ rfl HO5.out w5.heap.size (some ⟨R, 0, none⟩) (N - i) _ (blL (bs.drop i) (ds.drop i)) rfl (by rw [← HBN.out]; exact (show SPc w5 M Q room bs (.slice (some ⟨R, 0, none⟩) bs.length n1) ds by rw [HBN.out]; exact HC5.out).back (by rw [HBN.out]; exact hin3) _ (.inr (by rw [HBN.out, HIE.out]; omega))) (HONE.out _).2 (by unfold maxLen; omega) (by omega) (by exact HB5.out.size) ?_; intro A6 c6 w6 hown6 hgrow6 _; have HB6 := Lib.hid (HB5.out.grown hgrow6 HB5.out.size (fun q hq => (HO5.out.lt q hq).1)); have HO6 := Lib.hid hown6; have q6 := (HB6.out.cell (p := ⟨Q, 1, none⟩) (Nat.lt_of_lt_of_le HC.out.lt HB2.out.size)).trans ((HB2.out.cell (p := ⟨Q, 1, none⟩) HC.out.lt).trans d1); have f6 : w6.frozen? ⟨Q, 1, none⟩ = false := (HB6.out.frozen (p := ⟨Q, 1, none⟩) (Nat.lt_of_lt_of_le HC.out.lt HB2.out.size)).trans ((HB2.out.frozen (p := ⟨Q, 1, none⟩) HC.out.lt).trans (Lib.frozen_of_heap HC.out.box 1))))
                go_returns
                have hNN : i + 1 + (N - i) = N + 1 := by omega
                have ho6 := HO6.out
                rw [hNN] at ho6 ⊢
                have h9 := (show SPc w M Q room bs (.slice (some ⟨R, 0, none⟩) bs.length n1) ds by rw [HBN.out]; exact HC.out).inserted (b := ⟨fr, sh, List.replicate n (0, 0)⟩) (i := i) (n := n) (by rw [HBN.out]; exact hin3) rfl HIN2.out.1 (by simp) HD2.out HB2.out HB6.out (by rw [HBN.out]; exact ho6)
                rw [HBN.out] at h9
                unfold AlP
                rw [HR.out _ HIN.out]
                exact ⟨rfl, ⟨_, _, h9.1⟩, h9.2⟩
              · have hin4 := trivial
                have HIN2 := Lib.hid (insB_fit HF.out HIN.out)
                have hmm := make_cl n (by omega)
                have hfi := HIN2.out.2.2
                have HB2 := Lib.hid (sq (al (w := w) (.cells (madeCells #[Value.int .i64 0, .int .i64 0] (n * 2)) 36)) (al (.cells #[.int .i64 (fr : Int), .int .i64 sh, .slice (some ⟨w.heap.size, 0, none⟩) n n] 64)))
                have HD2 := Lib.hid ((made_own (base := w.heap.size) n (by omega) w (Nat.le_refl _)).alloc (.cells #[.int .i64 (fr : Int), .int .i64 sh, .slice (some ⟨w.heap.size, 0, none⟩) n n] 64))
                have HX2 := Lib.hid (show ((w.alloc (.cells (madeCells #[Value.int .i64 0, .int .i64 0] (n * 2)) 36)).alloc (.cells #[.int .i64 (fr : Int), .int .i64 sh, .slice (some ⟨w.heap.size, 0, none⟩) n n] 64)).heap[w.heap.size + 1]? = some (.cells #[.int .i64 (fr : Int), .int .i64 sh, .slice (some ⟨w.heap.size, 0, none⟩) n n] 64 (0, 0)) from heap_at _ (by simp))
                have HC2 := Lib.hid (HC.out.below HB2.out)
                have q2 := (HB2.out.cell (p := ⟨Q, 1, none⟩) HC.out.lt).trans d1
                have HLT := Lib.hid (show w.heap.size + 2 ≤ ((w.alloc (.cells (madeCells #[Value.int .i64 0, .int .i64 0] (n * 2)) 36)).alloc (.cells #[.int .i64 (fr : Int), .int .i64 sh, .slice (some ⟨w.heap.size, 0, none⟩) n n] 64)).heap.size by simp)
                go_upto_region 17 with (fail)
                generalize (w.alloc (.cells (madeCells #[Value.int .i64 0, .int .i64 0] (n * 2)) 36)).alloc (.cells #[.int .i64 (fr : Int), .int .i64 sh, .slice (some ⟨w.heap.size, 0, none⟩) n n] 64) = w2 at *
                go_upto_region 18 with (at_builtin; (refine wpList_append_rd _ rfl _ _ 41 rfl w2.heap.size 64 i0 _ 3 40 Try.underlying41 ki kz0 kz1 kz2 rfl (by omega) (.slice none 0 0) 0 [] rfl (World.ownsRow_nil _ _ _ _) w2.heap.size _ i _ (blL (bs.take i) (ds.take i)) rfl ((show SPc w2 M Q room bs (.slice (some ⟨R, 0, none⟩) bs.length n1) ds by rw [HBN.out]; exact HC2.out).front (by rw [HBN.out]; exact hin3)) (HONE.out _).1 (by unfold maxLen; omega) (by omega) (Nat.le_refl _) ?_; intro A3 c3 w3 hown3 hgrow3 _; have HB3 := Lib.hid ((Below.refl w2.heap.size w2).grown hgrow3 (Nat.le_refl _) (fun q e => by cases e)); have b0 := (HB3.out.cell (p := ⟨w.heap.size + 1, 0, none⟩) (show w.heap.size + 1 < w2.heap.size by have := HLT.out; omega)).trans (Lib.cell_of_heap HX2.out 0); have b1 := (HB3.out.cell (p := ⟨w.heap.size + 1, 1, none⟩) (show w.heap.size + 1 < w2.heap.size by have := HLT.out; omega)).trans (Lib.cell_of_heap HX2.out 1); have b2 := (HB3.out.cell (p := ⟨w.heap.size + 1, 2, none⟩) (show w.heap.size + 1 < w2.heap.size by have := HLT.out; omega)).trans (Lib.cell_of_heap HX2.out 2); have HO3 := Lib.hid (show w3.ownsRow w2.heap.size 64 3 (.slice A3 i c3) i (blL (bs.take i) (ds.take i)) by simpa using hown3)))
                have HC3 := Lib.hid (HC2.out.below HB3.out)
                have q3 := (HB3.out.cell (p := ⟨Q, 1, none⟩) (Nat.lt_of_lt_of_le HC.out.lt HB2.out.size)).trans q2
                clear hown3 hgrow3 q2
                go_upto_region 19 with (at_builtin; (refine wpList_append_rd _ rfl _ _ 41 rfl w2.heap.size 64 i0 _ 3 40 Try.underlying41 ki kz0 kz1 kz2 rfl (by omega) (.slice A3 i c3) i (blL (bs.take i) (ds.take i)) rfl (HO3.out.alloc _) _ _ 1 1 [.int .i64 (fr : Int), .int .i64 sh, .slice (some ⟨w.heap.size, 0, none⟩) n n] rfl (Rd.one _ _ _ 3 rfl _ (by simp)) (by intro u hu; simp at hu; rcases hu with rfl | rfl | rfl <;> rfl) (by unfold maxLen; omega) (by omega) (by have := HB3.out.size; simp; omega) ?_; intro A5 c5 w5 hown5 hgrow5 _; have HB5 := Lib.hid (((HB3.out.alloc HB3.out.size _).grown hgrow5 (by have := HB3.out.size; simp; omega) (fun q hq => (HO3.out.lt q hq).1))); have HO5 := Lib.hid hown5; have q5 := (HB5.out.cell (p := ⟨Q, 1, none⟩) (Nat.lt_of_lt_of_le HC.out.lt HB2.out.size)).trans ((HB2.out.cell (p := ⟨Q, 1, none⟩) HC.out.lt).trans d1)))
                have HC5 := Lib.hid (HC2.out.below HB5.out)
                clear hown5 hgrow5 q3 b0 b1 b2
                go_wp2_with (at_builtin; go_must  (refine wpList_append_rd _ rfl _ _ 41 rfl w2.heap.size 64 i0 _ 3 40 Try.underlying41 ki kz0 kz1 kz2 rfl (by omega) (.slice A5 (i + 1) c5) (i + 1) _ rfl HO5.out w5.heap.size (some ⟨R, i * 3, none⟩) (N - i) _ (blL (bs.drop i) (ds.drop i)) rfl (by rw [← HBN.out]; exact (show SPc w5 M Q room bs (.slice (some ⟨R, 0, none⟩) bs.length n1) ds by rw [HBN.out]; exact HC5.out).back (by rw [HBN.out]; exact hin3) _ (.inl rfl)) (HONE.out _).2 (by unfold maxLen; omega) (by omega) (by exact HB5.out.size) ?_; intro A6 c6 w6 hown6 hgrow6 _; have HB6 := Lib.hid (HB5.out.grown hgrow6 HB5.out.size (fun q hq => (HO5.out.lt q hq).1)); have HO6 := Lib.hid hown6; have q6 := (HB6.out.cell (p := ⟨Q, 1, none⟩) (Nat.lt_of_lt_of_le HC.out.lt HB2.out.size)).trans ((HB2.out.cell (p := ⟨Q, 1, none⟩) HC.out.lt).trans d1); have f6 : w6.frozen? ⟨Q, 1, none⟩ = false := (HB6.out.frozen (p := ⟨Q, 1, none⟩) (Nat.lt_of_lt_of_le HC.out.lt HB2.out.size)).trans ((HB2.out.frozen (p := ⟨Q, 1, none⟩) HC.out.lt).trans (Lib.frozen_of_heap HC.out.box 1))))
                go_returns
                have hNN : i + 1 + (N - i) = N + 1 := by omega
                have ho6 := HO6.out
                rw [hNN] at ho6 ⊢
                have h9 := (show SPc w M Q room bs (.slice (some ⟨R, 0, none⟩) bs.length n1) ds by rw [HBN.out]; exact HC.out).inserted (b := ⟨fr, sh, List.replicate n (0, 0)⟩) (i := i) (n := n) (by rw [HBN.out]; exact hin3) rfl HIN2.out.1 (by simp) HD2.out HB2.out HB6.out (by rw [HBN.out]; exact ho6)
                rw [HBN.out] at h9
                unfold AlP
                rw [HR.out _ HIN.out]
                exact ⟨rfl, ⟨_, _, h9.1⟩, h9.2⟩
        · have HSTP := Lib.hid (HDI2.out.stop (by omega))
          go_wp2_with fail
          exact ⟨⟨i + 1, fr, rfl, by simp; try omega, Lib.hid (by omega), Lib.hid (fun h => by omega), Lib.hid (fun _ => HSTP.out), trivial⟩, by simp [intOf]; try omega⟩
    · have HSTP := Lib.hid (HZ.out (by omega))
      go_wp2_with fail
      go_returns
      unfold AlP
      rw [HR.out _ HSTP.out]
      exact ⟨rfl, (show SM w M Q room bs from ⟨_, _, HC.out⟩).more fun k hk => .inl hk, Ke.refl⟩
end Go.Proofs.Ythogfcdgbodccaa
