/- The law HeapPlays, its walk. Conditions: none. -/
import Derived.Test.YthogfcdgbodccaaHqK
set_option maxRecDepth 100000
namespace Go.Proofs.Ythogfcdgbodccaa
open Go.ChangeShapes Go.WideShapes Go.ChangeAt Go.RowKit
set_option maxHeartbeats 16000000 in
theorem walkHeapPlays (v0 v1 : Value) (w : World) (h0 : IsInt v0) (h1 : IsAsks w v1) : Calls Try.prog 3 #[v0, v1] w fun e w' => e = .returned (.bool true) ∧ Below w.heap.size w w' := by
  obtain ⟨room, rfl, _, _⟩ := h0
  obtain ⟨l, hl, hf⟩ := h1
  obtain ⟨A, c, hv⟩ : ∃ A c, v1 = .slice A l.length c := by
    obtain ⟨A, c, _, e, _⟩ := hl
    simp only [List.cons.injEq, and_true] at e
    exact ⟨A, c, e⟩
  subst hv
  by_cases hb : room < 0 ∨ 4000 < room
  · clear hl hf
    go_enter Try.func3, Try.ntmps3
    go_wp2_with fail
    refine Calls.mono (new_bad room hb w) ?_
    rintro e w1 ⟨rfl, hb1⟩
    have HB1 := Lib.hid hb1
    clear hb1
    go_wp2_with fail
    refine Calls.mono (store_bad room hb w1) ?_
    rintro e w2 ⟨rfl, hb2⟩
    have HB2 := Lib.hid (sq HB1.out hb2)
    clear hb2
    go_wp2_with fail
    go_ret
    exact ⟨rfl, HB2.out⟩
  · obtain ⟨n, rfl⟩ : ∃ n : Nat, room = (n : Int) := ⟨room.toNat, by omega⟩
    have hn4 : n ≤ 4000 := by omega
    have HAT := Lib.hid (asks_at hl).2.2
    have HF := Lib.hid hf
    obtain ⟨N, hN⟩ : ∃ N, N = l.length := ⟨_, rfl⟩
    rw [← hN]
    have HN := Lib.hid hN
    clear hb hl hf hN
    go_enter Try.func3, Try.ntmps3
    go_wp2_with fail
    refine Calls.mono (new_any n hn4 w) ?_
    rintro e w1 ⟨P, M1, rfl, hm1, hk1, hb1⟩
    have HM1 := Lib.hid hm1
    have HK1 := Lib.hid hk1
    have HB1 := Lib.hid hb1
    clear hm1 hk1 hb1
    go_wp2_with fail
    refine Calls.mono (store_new n hn4 w1) ?_
    rintro e w2 ⟨Q, M2, rfl, sm2, hk2, hb2⟩
    have HA2 := Lib.hid (show AsI (w2.alloc (.cells #[.slice none 0 0] 33)) w.heap.size M1 M2 (fun k => k = w2.heap.size) P Q w2.heap.size n [] [] [] from by
      have ha := al (w := w2) (.cells #[.slice none 0 0] 33)
      have hs1 := HB1.out.size
      have hs2 := hb2.size
      refine ⟨(HM1.out.below hb2).below ha, sm2.below ha, ⟨rfl, none, 0, heap_alloc_new _ _, World.ownsRow_nil _ _ _ _, fun q h => by cases h⟩, fun k a b => ?_, fun k a b => ?_, fun k a b => ?_, fun k hk => ?_⟩
      · have := HK1.out k a; have := hk2 k b; omega
      · have := HK1.out k a; omega
      · have := hk2 k a; omega
      · simp
        rcases hk with h | h | h
        · have := HK1.out k h; omega
        · have := hk2 k h; omega
        · omega)
    have HB2 := Lib.hid (sq (sq HB1.out hb2) (al (.cells #[.slice none 0 0] 33)))
    clear sm2 hk2 hb2
    go_wp2_with fail
    generalize w2.alloc (.cells #[.slice none 0 0] 33) = w3 at *
    generalize w2.heap.size = G at *
    go_loopw [10] (fun v wr => ∃ (k : Nat) (M1 M2 M3 : Nat → Prop) (bs : List BK) (pl : List Int), v = .int .i64 (k : Int) ∧ k ≤ 120 ∧ k ≤ N ∧ Hid (AsI wr w.heap.size M1 M2 M3 P Q G n bs bs pl) ∧ Hid (pl.length ≤ k) ∧ Hid (Below w.heap.size w wr)) (fun v _ => N - (intOf v).toNat)
    case atStart => exact ⟨0, _, _, _, [], [], rfl, by omega, by omega, HA2, Lib.hid (Nat.le_refl _), HB2⟩
    case round =>
      obtain ⟨k, M1, M2, M3, bs, pl, rfl, hk, hkN, HA, HPL, HB⟩ := hrel
      have HSZ := Lib.hid HB.out.size
      by_cases hlt : (k : Int) < (N : Int) ∧ (k : Int) < 120
      · obtain ⟨hlt, hlt2⟩ := hlt
        obtain ⟨q, hq⟩ : ∃ q, l[k]? = some q := ⟨_, List.getElem?_eq_getElem (by have := HN.out; omega)⟩
        obtain ⟨b, off, Ai, ci, rfl, hbl, a0, a1, a2, a3, a4, a5, a6, _, _, hrd, _⟩ := HAT.out k q hq
        have c0 := (HB.out.cell (p := ⟨b, off + k * 7, none⟩) hbl).trans a0
        have c1 := (HB.out.cell (p := ⟨b, off + k * 7 + 1, none⟩) hbl).trans a1
        have c2 := (HB.out.cell (p := ⟨b, off + k * 7 + 2, none⟩) hbl).trans a2
        have c3 := (HB.out.cell (p := ⟨b, off + k * 7 + 3, none⟩) hbl).trans a3
        have c4 := (HB.out.cell (p := ⟨b, off + k * 7 + 4, none⟩) hbl).trans a4
        have c5 := (HB.out.cell (p := ⟨b, off + k * 7 + 5, none⟩) hbl).trans a5
        have c6 := (HB.out.cell (p := ⟨b, off + k * 7 + 6, none⟩) hbl).trans a6
        have HASK := Lib.hid (asked_any HA.out HSZ.out hn4 (by have := HPL.out; omega) q Ai ci (hrd.into (Nat.le_refl _) HB.out) (HF.out q (List.mem_of_getElem? hq)))
        clear hq hrd a0 a1 a2 a3 a4 a5 a6
        go_wp2_with fail
        refine Calls.mono HASK.out ?_
        intro e w5 h5
        obtain ⟨M1', M2', M3', bs', pl', rfl, ha5, hl5, _, hb5⟩ := h5
        have HA5 := Lib.hid ha5
        have HL5 := Lib.hid (show pl'.length ≤ k + 1 by have := HPL.out; omega)
        have HB5 := Lib.hid (HB.out.trans hb5)
        clear ha5 hl5 hb5 c0 c1 c2 c3 c4 c5 c6
        go_wp2_with fail
        go_roundw
        case rel => exact ⟨k + 1, M1', M2', M3', bs', pl', by simp, by omega, by omega, HA5, HL5, HB5⟩
        case measure => simp [intOf]; omega
      · have hcond : ¬ (k : Int) < (N : Int) ∨ (k : Int) < (N : Int) ∧ ¬ (k : Int) < 120 := by omega
        obtain ⟨cells, shapes, cv, zv, sv, hp, _⟩ := HA.out.hm
        obtain ⟨bv, ds, hs⟩ := HA.out.sm
        obtain ⟨A2, c2, e2⟩ := own_form hs.row
        subst e2
        have q1 := hs.boxc.2
        have hQl := hs.lt
        have HFB := Lib.hid (show bs.length ≤ 4000 ∧ ∀ b ∈ bs, b.cells.length ≤ 4000 from ⟨Nat.le_trans (bs_len hs.fit) hn4, fun b hb => by
          have h1 := (hs.fit.ge b hb).2
          have h2 : b.fin = b.at_ + 1 + b.cells.length := rfl
          omega⟩)
        have HL1 := Lib.hid (fun (w4 : World) (hb : Below wr.heap.size wr w4) => blocks_any (hp.below hb) hn4)
        have HL2 := Lib.hid (fun (w4 : World) (hb : Below wr.heap.size wr w4) (A4 : Option Addr) (c4 : Nat) (h : BlR w4 (.slice A4 bs.length c4) bs) => same_any A4 A2 bs.length c4 bs.length c2 bs w4 h ((hs.below hb).bk.read (hs.below hb).row) HFB.out.1 HFB.out.2)
        have HL3 := Lib.hid (fun (w4 : World) (hb : Below wr.heap.size wr w4) => free_any (hp.below hb) (by omega))
        have HL4 := Lib.hid (fun (w4 : World) (hb : Below wr.heap.size wr w4) => refFree_any (hs.below hb) hn4)
        have HQ1 := Lib.hid (show ∀ w4 : World, Below wr.heap.size wr w4 → w4.cell? ⟨Q, 1, none⟩ = some (.slice A2 bs.length c2) from fun w4 hb => (hb.cell (p := ⟨Q, 1, none⟩) hQl).trans q1)
        clear hp hs hlt
        rcases hcond with h1 | ⟨h1, h2⟩
        · go_wp2_with fail
          go_region_held3 (fun w' => w'.cell? ⟨Q, 1, none⟩ = some (.slice A2 bs.length c2)) (go_keep) (first
            | (go_at_call 9; (refine Calls.mono (HL1.out wr.drew (Below.refl _ _).drew) ?_; rintro e w4 ⟨v, rfl, hbl, hb4⟩; obtain ⟨A4, c4, hv⟩ := BlR.form hbl; subst hv; have hb5 : Below wr.heap.size wr w4 := ⟨hb4.os, hb4.tape, hb4.output, hb4.size, hb4.block⟩; have hq4 := HQ1.out w4 hb5))
            | (go_at_call 8; (refine Calls.mono (HL2.out w4 hb5 A4 c4 hbl) ?_; rintro e w5 ⟨rfl, hb6⟩; have hb7 : Below wr.heap.size wr w5 := Below.trans hb5 (Below.mono hb6 hb5.size); have hq5 := HQ1.out w5 hb7))
            | (go_at_call 10; (refine Calls.mono (HL3.out w5 hb7) ?_; rintro e w6 ⟨rfl, rfl⟩))
            | (go_at_call 11; (refine Calls.mono (HL4.out _ hb7) ?_; rintro e w7 ⟨rfl, hb8⟩; have hb9 : Below wr.heap.size wr w7 := Below.trans hb7 (Below.mono hb8 hb7.size); have hq7 := HQ1.out w7 hb9)))
          have HB9 := Lib.hid (HB.out.trans (hb9.mono HSZ.out))
          clear hq4 hq5 hq7 hb4 hb5 hb6 hb7 hb8 hb9 hbl q1
          go_wp2_with fail
          go_ret
          exact ⟨rfl, HB9.out⟩
        · go_wp2_with fail
          go_region_held3 (fun w' => w'.cell? ⟨Q, 1, none⟩ = some (.slice A2 bs.length c2)) (go_keep) (first
            | (go_at_call 9; (refine Calls.mono (HL1.out wr.drew (Below.refl _ _).drew) ?_; rintro e w4 ⟨v, rfl, hbl, hb4⟩; obtain ⟨A4, c4, hv⟩ := BlR.form hbl; subst hv; have hb5 : Below wr.heap.size wr w4 := ⟨hb4.os, hb4.tape, hb4.output, hb4.size, hb4.block⟩; have hq4 := HQ1.out w4 hb5))
            | (go_at_call 8; (refine Calls.mono (HL2.out w4 hb5 A4 c4 hbl) ?_; rintro e w5 ⟨rfl, hb6⟩; have hb7 : Below wr.heap.size wr w5 := Below.trans hb5 (Below.mono hb6 hb5.size); have hq5 := HQ1.out w5 hb7))
            | (go_at_call 10; (refine Calls.mono (HL3.out w5 hb7) ?_; rintro e w6 ⟨rfl, rfl⟩))
            | (go_at_call 11; (refine Calls.mono (HL4.out _ hb7) ?_; rintro e w7 ⟨rfl, hb8⟩; have hb9 : Below wr.heap.size wr w7 := Below.trans hb7 (Below.mono hb8 hb7.size); have hq7 := HQ1.out w7 hb9)))
          have HB9 := Lib.hid (HB.out.trans (hb9.mono HSZ.out))
          clear hq4 hq5 hq7 hb4 hb5 hb6 hb7 hb8 hb9 hbl q1
          go_wp2_with fail
          go_ret
          exact ⟨rfl, HB9.out⟩
end Go.Proofs.Ythogfcdgbodccaa
