/- The document's Led. Conditions: none. -/
import Derived.Test.YthogfcdgbodccaaHqD
set_option maxRecDepth 100000
namespace Go.Proofs.Ythogfcdgbodccaa
open Go.ChangeShapes Go.WideShapes Go.ChangeAt Go.RowKit
theorem bool_row {w : World} {base g n : Nat} {S : List Bool} (h : w.ownsRow base 4 1 (.slice (some ⟨g, 0, none⟩) n n) n (S.map Value.bool)) {k : Nat} {s : Bool} (hs : S[k]? = some s) : w.cell? ⟨g, k, none⟩ = some (.bool s) ∧ w.frozen? ⟨g, k, none⟩ = false ∧ base ≤ g ∧ g < w.heap.size :=
  own_cellC h (by rw [List.getElem?_map, hs]; rfl)
set_option maxHeartbeats 16000000 in
theorem led_any {w : World} {M : Nat → Prop} {Q room : Nat} {bs : List BK} {bv : Value} {ds : List Value} (h : SPc w M Q room bs bv ds) (h63 : room ≤ 4000) (A : Option Addr) (n c : Nat) (roots : List (Int × Int)) (hr : Rd w w.heap.size 2 A n (ceL roots)) (hn : n = roots.length) (hn2 : n * 16 ≤ 140737488351232) :
    Calls Try.prog 39 #[.pointer (some ⟨Q, 0, none⟩), .slice A n c] w fun e w' => ∃ (g : Nat) (S : List Bool), e = .returned (.slice (some ⟨g, 0, none⟩) bs.length bs.length) ∧ w'.ownsRow w.heap.size 4 1 (.slice (some ⟨g, 0, none⟩) bs.length bs.length) bs.length (S.map Value.bool) ∧ (∀ (i : Nat) (b : BK), bs[i]? = some b → (S[i]? = some true ↔ Led 6 bs roots b.at_)) ∧ S.length = bs.length ∧ Below w.heap.size w w' := by
  have HC := Lib.hid h
  have HR := Lib.hid hr
  have HNR := Lib.hid hn
  have HL := Lib.hid (bs_len h.fit)
  have HF := Lib.hid h.fit
  obtain ⟨d0, d1⟩ := h.boxc
  obtain ⟨A1, n1, e1⟩ := own_form h.row
  subst e1
  obtain ⟨ib, hbi, hbz0, hbz1, hbz2⟩ := info_parts info_bool
  obtain ⟨N, hN⟩ : ∃ N, N = bs.length := ⟨_, rfl⟩
  rw [← hN] at d1
  have HN := Lib.hid hN
  have hN4 : N ≤ 4000 := by have := HL.out; omega
  have hmade : (madeCells (Value.bool false).cells (N * 1)).toList = (List.replicate N false).map Value.bool := by
    rw [Nat.mul_one]
    exact made_bools N
  clear h hr hn hN
  go_enter Try.func39, Try.ntmps39
  go_wp2_with (at_make; refine wpList_make_full _ rfl _ _ 79 rfl w.heap.size 4 ib (.bool false) 1 Try.underlying79 hbi hbz0 hbz1 .i64 .i64 _ _ N rfl rfl rfl rfl (by rw [hbz2]; omega) (by unfold maxLen; omega) (Nat.le_refl _) ?_; intro w1 hown hgrow; rw [hmade] at hown; have HOS := Lib.hid hown)
  have HB1 := Lib.hid ((Below.refl w.heap.size w).grown hgrow (Nat.le_refl _) (fun q e => by cases e))
  clear hown hgrow hmade
  generalize hgs : w.heap.size = gs at *
  have HGS := Lib.hid hgs
  clear hgs
  have HRS := Lib.hid (show Rnd 6 bs roots (List.replicate N false) by rw [HN.out]; exact Rnd.start)
  go_loopw [7] (fun v wr => ∃ (S : List Bool) (b : Bool), v = .bool b ∧ Hid (Rnd 6 bs roots S) ∧ Hid (b = false → ∀ (i : Nat) (x : BK), S[i]? = some false → bs[i]? = some x → ¬ Hit 6 bs roots S x.at_) ∧ Hid (wr.ownsRow gs 4 1 (.slice (some ⟨gs, 0, none⟩) N N) N (S.map Value.bool)) ∧ Hid (Below gs w wr)) (fun v wr => 2 * falAt gs wr + boolN v)
  case atStart => exact ⟨_, true, rfl, HRS, Lib.hid (fun e => by cases e), HOS, HB1⟩
  case round =>
    obtain ⟨S0, b, rfl, HRV, HCL, HOW, HBR⟩ := hrel
    cases b with
    | false =>
      go_wp2_with fail
      go_ret
      refine ⟨gs, by rw [← HN.out]; rfl, S0, by rw [← HN.out, HGS.out]; exact HOW.out, fun i x hx => HRV.out.stop HF.out (HCL.out trivial) hx, HRV.out.len, by rw [HGS.out]; exact HBR.out⟩
    | true =>
      have HMX := Lib.hid (show falAt gs wr = nfal S0 from falAt_own HOW.out)
      have q1 := (HBR.out.cell (p := ⟨Q, 1, none⟩) (by rw [← HGS.out]; exact HC.out.lt)).trans d1
      go_wp2_with fail
      clear q1
      go_loopw [7, 23] (fun v i wr => ∃ (k : Nat) (S : List Bool) (b : Bool), v = .bool b ∧ i = .int .i64 (k : Int) ∧ k ≤ N ∧ Hid (PsI bs roots S0 S b k) ∧ Hid (wr.ownsRow gs 4 1 (.slice (some ⟨gs, 0, none⟩) N N) N (S.map Value.bool)) ∧ Hid (Below gs w wr)) (fun _ i _ => N - (intOf i).toNat)
      case atStart => exact ⟨0, S0, false, rfl, rfl, Nat.zero_le _, Lib.hid ⟨HRV.out, .inl ⟨rfl, rfl, fun i x hi => by omega⟩⟩, HOW, HBR⟩
      case round =>
        obtain ⟨k, S, b, rfl, rfl, hk, HP, HO, HB⟩ := hrel
        have hgsw : gs ≤ wr.heap.size := by have := HB.out.size; have := HGS.out; omega
        have HCW := Lib.hid (HC.out.below (by rw [HGS.out]; exact HB.out))
        have HRW := Lib.hid (HR.out.below HB.out)
        by_cases hlt : (k : Int) < (N : Int)
        · obtain ⟨x, hx⟩ : ∃ x, bs[k]? = some x := ⟨_, List.getElem?_eq_getElem (by have := HN.out; omega)⟩
          obtain ⟨s, hs⟩ : ∃ s, S[k]? = some s := ⟨_, List.getElem?_eq_getElem (by rw [HP.out.1.len, ← HN.out]; omega)⟩
          have HX := Lib.hid hx
          have HSS := Lib.hid hs
          obtain ⟨l0, l1, _, _⟩ := bool_row HO.out hs
          clear hx hs
          cases s with
          | true =>
            have HP2 := Lib.hid (HP.out.skip fun y hy => by rw [HSS.out] at hy; cases hy)
            go_wp2_with fail
            go_roundw
            case rel => exact ⟨k + 1, S, b, rfl, by simp, by omega, HP2, HO, HB⟩
            case measure => simp [intOf]; omega
          | false =>
            obtain ⟨q0, q1⟩ := HCW.out.boxc
            rw [← HN.out] at q1
            obtain ⟨R, nR, dx, e1, hdx, hRl, x0, _, _⟩ := HCW.out.at_ HX.out
            rw [← HN.out] at e1
            injection e1 with e1 _ e2
            subst e1 e2
            have HND := Lib.hid hdx
            clear hdx q0
            go_wp2_with fail
            refine Calls.mono (names_any A n c roots _ _ (HRW.out.more hgsw) HNR.out (by omega)) ?_
            rintro e w3 ⟨rfl, hb3⟩
            have HB3 := Lib.hid (HB.out.trans (hb3.mono hgsw))
            have HO3 := Lib.hid (own_below HO.out hb3)
            have q3 := (hb3.cell (p := ⟨Q, 1, none⟩) HCW.out.lt).trans q1
            have HH0 := Lib.hid (show (NamB roots x.at_ = true ↔ HitK bs roots S x.at_ 0) from namB_iff.trans HitK.zero.symm)
            clear hb3
            rw [show decide ((6, (x.at_ : Int)) ∈ roots) = NamB roots x.at_ from rfl]
            generalize NamB roots x.at_ = h0 at *
            go_wp2_with fail
            clear q3 q1 x0 l0 l1
            go_loopw [9, 46] (fun h i wq => ∃ (j : Nat) (hb : Bool), h = .bool hb ∧ i = .int .i64 (j : Int) ∧ j ≤ N ∧ Hid (hb = true ↔ HitK bs roots S x.at_ j) ∧ Hid (wq.ownsRow gs 4 1 (.slice (some ⟨gs, 0, none⟩) N N) N (S.map Value.bool)) ∧ Hid (Below gs w wq)) (fun _ i _ => N - (intOf i).toNat)
            case atStart => exact ⟨0, h0, rfl, rfl, Nat.zero_le _, HH0, HO3, HB3⟩
            case round =>
              obtain ⟨j, hb, rfl, rfl, hj, HH, HO4, HB4⟩ := hrel
              have hgs4 : gs ≤ wr.heap.size := by have := HB4.out.size; have := HGS.out; omega
              have HC4 := Lib.hid (HC.out.below (by rw [HGS.out]; exact HB4.out))
              obtain ⟨_, q1⟩ := HC4.out.boxc
              rw [← HN.out] at q1
              by_cases hlj : (j : Int) < (N : Int)
              · obtain ⟨y, hy⟩ : ∃ y, bs[j]? = some y := ⟨_, List.getElem?_eq_getElem (by have := HN.out; omega)⟩
                obtain ⟨sj, hsj⟩ : ∃ s, S[j]? = some s := ⟨_, List.getElem?_eq_getElem (by rw [HP.out.1.len, ← HN.out]; omega)⟩
                have HST := Lib.hid (HitK.step (roots := roots) (a := x.at_) hsj hy)
                obtain ⟨l0, l1, _, hgl4⟩ := bool_row HO4.out hsj
                have HGL := Lib.hid hgl4
                clear hgl4
                obtain ⟨R', nR, dy, e1, hdy, hRl, y0, _, y2⟩ := HC4.out.at_ hy
                rw [← HN.out] at e1
                injection e1 with e1 _ e2
                injection e1 with e1
                injection e1 with e1
                subst e1 e2
                obtain ⟨R2, nR2, dx2, e3, _, _, x0, _, _⟩ := HC4.out.at_ HX.out
                rw [← HN.out] at e3
                injection e3 with e3 _ e4
                injection e3 with e3
                injection e3 with e3
                subst e3 e4
                obtain ⟨D, cd, rfl⟩ := own_form (HC4.out.bk.cr j y dy hy hdy)
                have HRY := Lib.hid (Rd.of_own (HC4.out.bk.cr j y _ hy hdy))
                have hyl : y.cells.length ≤ 4000 := by
                  have h1 := (HF.out.ge y (List.mem_of_getElem? hy)).2
                  have h2 : y.fin = y.at_ + 1 + y.cells.length := rfl
                  omega
                have hQl := HC4.out.lt
                have hRlt : R < wr.heap.size := hRl
                clear hy hsj hdy hRl
                cases hb with
                | true =>
                  have HH2 := Lib.hid (show (true = true ↔ HitK bs roots S x.at_ (j + 1)) from ⟨fun _ => HST.out.2 (.inl (HH.out.1 rfl)), fun _ => rfl⟩)
                  go_wp2_with fail
                  go_quiet (fail)
                  go_wp2_with fail
                  exact ⟨⟨j + 1, true, rfl, by simp, by omega, by simpa using HH2, HO4, Lib.hid (dr HB4.out _)⟩, by simp [intOf]; omega⟩
                | false =>
                  cases sj with
                  | false =>
                    have HH2 := Lib.hid (show (false = true ↔ HitK bs roots S x.at_ (j + 1)) from ⟨fun e => (by cases e), fun h => by
                      rcases HST.out.1 h with h | ⟨h, _⟩
                      · exact HH.out.2 h
                      · exact h⟩)
                    go_wp2_with fail
                    go_quiet (fail)
                    go_wp2_with fail
                    exact ⟨⟨j + 1, false, rfl, by simp, by omega, by simpa using HH2, HO4, Lib.hid (dr HB4.out _)⟩, by simp [intOf]; omega⟩
                  | true =>
                    have HH2 := Lib.hid (show (NamB y.cells x.at_ = true ↔ HitK bs roots S x.at_ (j + 1)) from namB_iff.trans ⟨fun h => HST.out.2 (.inr ⟨rfl, h⟩), fun h => by
                      rcases HST.out.1 h with h | ⟨_, h⟩
                      · exact absurd (HH.out.2 h) (by simp)
                      · exact h⟩)
                    have HCELL := Lib.hid (show ∀ w5 : World, Below wr.heap.size wr w5 → w5.cell? ⟨gs, j, none⟩ = some (.bool true) ∧ w5.cell? ⟨Q, 1, none⟩ = some (.slice (some ⟨R, 0, none⟩) N n1) ∧ w5.cell? ⟨R, j * 3 + 2, none⟩ = some (.slice D y.cells.length cd) ∧ w5.cell? ⟨R, k * 3, none⟩ = some (.int .i64 (x.at_ : Int)) from fun w5 hb => ⟨(hb.cell (p := ⟨gs, j, none⟩) HGL.out).trans l0, (hb.cell (p := ⟨Q, 1, none⟩) hQl).trans q1, (hb.cell (p := ⟨R, j * 3 + 2, none⟩) hRlt).trans y2, (hb.cell (p := ⟨R, k * 3, none⟩) hRlt).trans x0⟩)
                    go_wp2_with fail
                    go_region_held3 (fun w' => w'.cell? ⟨gs, j, none⟩ = some (.bool true) ∧ w'.cell? ⟨Q, 1, none⟩ = some (.slice (some ⟨R, 0, none⟩) N n1) ∧ w'.cell? ⟨R, j * 3 + 2, none⟩ = some (.slice D y.cells.length cd) ∧ w'.cell? ⟨R, k * 3, none⟩ = some (.int .i64 (x.at_ : Int))) (go_keep) ((go_at_call 50; go_must (refine Calls.mono (names_any D y.cells.length cd y.cells (x.at_ : Int) wr.drew HRY.out rfl (by omega)) ?_; rintro e w5 ⟨rfl, hb5⟩; have hb6 : Below wr.heap.size wr w5 := ⟨hb5.os, hb5.tape, hb5.output, hb5.size, hb5.block⟩; obtain ⟨m0, m1, m2, m3⟩ := HCELL.out w5 hb6)))
                    have HB6 := Lib.hid (HB4.out.trans (hb6.mono hgs4))
                    have HO6 := Lib.hid (own_below HO4.out hb6)
                    clear hb5 hb6 m0 m1 m2 m3
                    rw [show decide ((6, (x.at_ : Int)) ∈ y.cells) = NamB y.cells x.at_ from rfl]
                    generalize NamB y.cells x.at_ = h9 at *
                    go_wp2_with fail
                    exact ⟨⟨j + 1, h9, rfl, by simp, by omega, HH2, HO6, HB6⟩, by simp [intOf]; omega⟩
              · have HHK := Lib.hid (show (hb = true ↔ Hit 6 bs roots S x.at_) by
                  have := HH.out
                  rw [show j = bs.length by have := HN.out; omega] at this
                  exact this.trans HitK.all)
                cases hb with
                | false =>
                  have HP2 := Lib.hid (HP.out.skip fun y _ hy hh => by
                    rw [HX.out] at hy
                    injection hy with hy
                    subst hy
                    exact absurd (HHK.out.2 hh) (by simp))
                  go_wp2_with fail
                  go_roundw
                  case rel => exact ⟨k + 1, S, b, rfl, by simp, by omega, HP2, HO4, HB4⟩
                  case measure => simp [intOf]; omega
                | true =>
                  have HP2 := Lib.hid (HP.out.turn HF.out HX.out HSS.out (HHK.out.1 rfl))
                  obtain ⟨l0, l1, hgg, hgl⟩ := bool_row HO4.out HSS.out
                  have HO5 := Lib.hid (own_setC HO4.out (.bool true) (k := k))
                  rw [← List.map_set] at HO5
                  have HB5 := Lib.hid (HB4.out.setCell (p := ⟨gs, k, none⟩) (Nat.le_refl _) (.bool true))
                  go_wp2_with fail
                  go_roundw
                  case rel => exact ⟨k + 1, S.set k true, true, rfl, by simp, by omega, HP2, HO5, HB5⟩
                  case measure => simp [intOf]; omega
        · have hkN : k = N := by omega
          go_wp2_with fail
          go_roundw
          case rel => exact ⟨S, b, rfl, Lib.hid HP.out.1, Lib.hid (fun e i y hs hy => by
            rcases HP.out.2 with ⟨_, h2, h3⟩ | ⟨h1, _⟩
            · exact h3 i y (by have := (List.getElem?_eq_some_iff.1 hy).1; have := HN.out; omega) hs hy
            · rw [e] at h1; cases h1), HO, HB⟩
          case measure =>
            have h1 := HMX.out
            have h2 := falAt_own HO.out
            rcases HP.out.2 with ⟨e, h3, _⟩ | ⟨e, h3⟩
            · subst e h3
              show 2 * falAt gs _ + 0 < 2 * falAt gs _ + 1
              omega
            · subst e
              show 2 * falAt gs _ + 1 < 2 * falAt gs _ + 1
              omega
end Go.Proofs.Ythogfcdgbodccaa
