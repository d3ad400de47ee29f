/- The law's 'asked': one question to both. Conditions: what holds of both heaps. -/
import Derived.Test.YthogfcdgbodccaaHqJ
set_option maxRecDepth 100000
namespace Go.Proofs.Ythogfcdgbodccaa
open Go.ChangeShapes Go.WideShapes Go.ChangeAt Go.RowKit
@[reducible] def qqA (q : QQ) (A : Option Addr) (c : Nat) : Value := .agg #[.int .i64 q.kind, .int .i64 q.a, .int .i64 q.b, .int .i64 q.at_, .int .i64 q.c.1, .int .i64 q.c.2, .slice A q.roots.length c]
@[reducible] def qqC (q : QQ) (A : Option Addr) (c : Nat) : Array Value := #[.int .i64 q.kind, .int .i64 q.a, .int .i64 q.b, .int .i64 q.at_, .int .i64 q.c.1, .int .i64 q.c.2, .slice A q.roots.length c]
theorem merge2 {α β : Type} {F : α → β → Prop} {G : α → β → Prop} {goal : Prop} (main : (∀ a b, F a b → G a b) → goal) (later : ∀ a b, F a b → G a b) : goal := main later
def AskP (w : World) (B P Q G room : Nat) (l : List Int) (e : Ending) (w' : World) : Prop := ∃ M1 M2 M3 bs l', e = .returned (.bool true) ∧ AsI w' B M1 M2 M3 P Q G room bs bs l' ∧ l'.length ≤ l.length + 1 ∧ w.heap.size ≤ w'.heap.size ∧ Below B w w'
theorem seven {w : World} {g : Nat} {q : QQ} {A : Option Addr} {c : Nat} (h : w.heap[g]? = some (.cells (qqC q A c) 39 (0, 0))) : w.cell? ⟨g, 0, none⟩ = some (.int .i64 q.kind) ∧ w.cell? ⟨g, 1, none⟩ = some (.int .i64 q.a) ∧ w.cell? ⟨g, 2, none⟩ = some (.int .i64 q.b) ∧ w.cell? ⟨g, 3, none⟩ = some (.int .i64 q.at_) ∧ w.cell? ⟨g, 4, none⟩ = some (.int .i64 q.c.1) ∧ w.cell? ⟨g, 5, none⟩ = some (.int .i64 q.c.2) ∧ w.cell? ⟨g, 6, none⟩ = some (.slice A q.roots.length c) := by
  refine ⟨?_, ?_, ?_, ?_, ?_, ?_, ?_⟩ <;> (rw [Lib.cell_of_heap h]; rfl)
theorem pairc {w : World} {g : Nat} {x y : Value} {T : TypeId} (h : w.heap[g]? = some (.cells #[x, y] T (0, 0))) : w.cell? ⟨g, 0, none⟩ = some x ∧ w.cell? ⟨g, 1, none⟩ = some y := by
  refine ⟨?_, ?_⟩ <;> (rw [Lib.cell_of_heap h]; rfl)
theorem BlR.form {w : World} {v : Value} {bs : List BK} (h : BlR w v bs) : ∃ A c, v = .slice A bs.length c := by
  obtain ⟨A, c, _, e, _⟩ := h
  exact ⟨A, c, e⟩
theorem loadV_form (bs : List BK) (a i : Int) : ∃ x1 x2 e : Int, loadV bs a i = .tuple #[.agg #[.int .i64 x1, .int .i64 x2], .int .i64 e] := by
  by_cases h : stE bs a i 0 = 0
  · obtain ⟨k, j, b, x, rfl, rfl, hb, hx⟩ := stE_in h
    exact ⟨_, _, _, loadV_ok hb hx⟩
  · exact ⟨_, _, _, loadV_err h⟩
theorem lookV_form (bs : List BK) (a : Int) : ∃ x1 x2 e : Int, lookV bs a = .tuple #[.int .i64 x1, .int .i64 x2, .int .i64 e] := by
  unfold lookV
  cases hA : isB bs a with
  | false => exact ⟨_, _, _, rfl⟩
  | true =>
    obtain ⟨k, b, rfl, hb⟩ := isB_blk hA
    rw [Int.toNat_natCast, hb]
    exact ⟨_, _, _, rfl⟩
set_option maxHeartbeats 32000000 in
theorem asked_any {w : World} {B P Q G room : Nat} {M1 M2 M3 : Nat → Prop} {bs : List BK} {l : List Int} (h : AsI w B M1 M2 M3 P Q G room bs bs l) (hB : B ≤ w.heap.size) (h63 : room ≤ 4000) (hl : l.length ≤ 4000) (q : QQ) (A : Option Addr) (c : Nat) (hr : Rd w w.heap.size 2 A q.roots.length (ceL q.roots)) (hn2 : q.roots.length * 16 ≤ 140737488351232) :
    Calls Try.prog 7 #[.pointer (some ⟨P, 0, none⟩), .pointer (some ⟨Q, 0, none⟩), .pointer (some ⟨G, 0, none⟩), qqA q A c] w (AskP w B P Q G room l) := by
  have HA := Lib.hid h
  have HR := Lib.hid hr
  obtain ⟨A0, c0, hG0, hG1, hG2⟩ := h.pl.ex
  have HG1 := Lib.hid hG1
  have hGl : G < w.heap.size := (Array.getElem?_eq_some_iff.1 hG0).1
  have g0 : w.cell? ⟨G, 0, none⟩ = some (.slice A0 l.length c0) := by rw [Lib.cell_of_heap hG0]; rfl
  clear h hr hG0 hG1 hG2
  go_enter Try.func7, Try.ntmps7
  go_wp2_with fail
  have HB0 := Lib.hid (al (w := w) (.cells (qqC q A c) 39))
  have HL0 := Lib.hid (heap_alloc_new w (.cells (qqC q A c) 39))
  obtain ⟨a0, a1, a2, a3, a4, a5, a6⟩ := seven HL0.out
  have g1 : (w.alloc (.cells (qqC q A c) 39)).cell? ⟨G, 0, none⟩ = some (.slice A0 l.length c0) := (World.cell?_of_block (Lib.alloc_old _ _ _ hGl)).trans g0
  have HP0 := Lib.hid ((Rd.of_own HG1.out).into (Nat.le_refl _) HB0.out)
  have HGR := Lib.hid (show G < w.heap.size from hGl)
  clear g0
  generalize hw0 : w.alloc (.cells (qqC q A c) 39) = w0 at *
  have HW0 := Lib.hid (show w0.heap.size = w.heap.size + 1 by rw [← hw0]; simp)
  clear hw0
  have hLl : w.heap.size < w0.heap.size := by have := HW0.out; omega
  have HC0 := Lib.hid (show ∀ w1 : World, Below w0.heap.size w0 w1 → w1.cell? ⟨G, 0, none⟩ = some (.slice A0 l.length c0) ∧ w1.cell? ⟨w.heap.size, 3, none⟩ = some (.int .i64 q.at_) from fun w1 hb => ⟨(hb.cell (p := ⟨G, 0, none⟩) (show G < w0.heap.size by omega)).trans g1, (hb.cell (p := ⟨w.heap.size, 3, none⟩) hLl).trans a3⟩)
  go_region_held3 (fun w' => w'.cell? ⟨G, 0, none⟩ = some (.slice A0 l.length c0) ∧ w'.cell? ⟨w.heap.size, 3, none⟩ = some (.int .i64 q.at_)) (go_keep) ((go_at_call 16; go_must (refine Calls.mono (of_any A0 l.length c0 l q.at_ w0.drew HP0.out rfl) ?_; rintro e w1 ⟨rfl, hb1⟩; have hb1' : Below w0.heap.size w0 w1 := ⟨hb1.os, hb1.tape, hb1.output, hb1.size, hb1.block⟩; obtain ⟨m0, m1⟩ := HC0.out w1 hb1')))
  have HB1 := Lib.hid (sq HB0.out hb1')
  have HL1 := Lib.hid ((hb1'.block w.heap.size hLl).trans HL0.out)
  have HP1 := Lib.hid (HP0.out.into (Nat.le_refl _) hb1')
  have HGW := Lib.hid (show G < w1.heap.size by have := HB1.out.size; omega)
  have HLW := Lib.hid (show w.heap.size < w1.heap.size by have := hb1'.size; omega)
  clear hb1 hb1' m1 a0 a1 a2 a3 a4 a5 a6 g1 hLl
  obtain ⟨_, _, _, _, a4, a5, _⟩ := seven HL1.out
  have HC1 := Lib.hid (show ∀ w2 : World, Below w1.heap.size w1 w2 → w2.cell? ⟨G, 0, none⟩ = some (.slice A0 l.length c0) ∧ w2.cell? ⟨w.heap.size, 4, none⟩ = some (.int .i64 q.c.1) ∧ w2.cell? ⟨w.heap.size, 5, none⟩ = some (.int .i64 q.c.2) ∧ w.heap.size < w2.heap.size ∧ G < w2.heap.size ∧ G ≠ w2.heap.size ∧ w2.heap.size ≠ G ∧ w.heap.size ≠ w2.heap.size ∧ w2.heap.size ≠ w.heap.size from fun w2 hb => ⟨(hb.cell (p := ⟨G, 0, none⟩) HGW.out).trans m0, (hb.cell (p := ⟨w.heap.size, 4, none⟩) HLW.out).trans a4, (hb.cell (p := ⟨w.heap.size, 5, none⟩) HLW.out).trans a5, Nat.lt_of_lt_of_le HLW.out hb.size, Nat.lt_of_lt_of_le HGW.out hb.size, Nat.ne_of_lt (Nat.lt_of_lt_of_le HGW.out hb.size), fun e => Nat.ne_of_lt (Nat.lt_of_lt_of_le HGW.out hb.size) e.symm, Nat.ne_of_lt (Nat.lt_of_lt_of_le HLW.out hb.size), fun e => Nat.ne_of_lt (Nat.lt_of_lt_of_le HLW.out hb.size) e.symm⟩)
  have hLl1 := HLW.out
  have hGl1 := HGW.out
  have HCX := Lib.hid (fun (W : World) (hW : Below w1.heap.size w1 W) => cell_any A0 l.length c0 l q.c W (HP1.out.into (Nat.le_refl _) hW) rfl)
  obtain ⟨⟨ct, cn⟩, hce⟩ : ∃ x, x = ceP l q.c := ⟨_, rfl⟩
  rw [← hce] at HCX
  clear hce HC1
  have HAL := Lib.hid (show ∀ (W w2 : World), Below (w1.alloc (.cells #[.int .i64 0, .int .i64 0] 36)).heap.size (w1.alloc (.cells #[.int .i64 0, .int .i64 0] 36)) w2 → (w2.cell? ⟨w1.heap.size, 0, none⟩ = some (.int .i64 0) ∧ w2.cell? ⟨w1.heap.size, 1, none⟩ = some (.int .i64 0)) ∧ w2.frozen? ⟨w1.heap.size, 0, none⟩ = false ∧ w2.frozen? ⟨w1.heap.size, 1, none⟩ = false from fun _ w2 hb => loc2 hb)
  go_wp2_with fail
  refine merge2 (F := fun (LC : Nat) (W : World) => W.heap[LC]? = some (.cells #[.int .i64 ct, .int .i64 cn] 36 (0, 0)) ∧ Below w1.heap.size w1 W ∧ w1.heap.size ≤ LC) (G := ?G) (fun hk => ?main) ?later
  case main =>
    go_region_law (first
      | ((go_simp; (go_at_call 17); refine Calls.mono (HCX.out w1.drew (Below.refl _ _).drew) ?_; rintro e w2 ⟨rfl, hb2⟩; have hb3 : Below w1.heap.size w1 w2 := ⟨hb2.os, hb2.tape, hb2.output, hb2.size, hb2.block⟩; have hv := trivial))
      | ((go_simp; (go_at_call 17); refine Calls.mono (HCX.out (w1.alloc (.cells #[.int .i64 0, .int .i64 0] 36)).drew (al _).drew) ?_; rintro e w2 ⟨rfl, hb2⟩; have hb3 : Below (w1.alloc (.cells #[.int .i64 0, .int .i64 0] 36)).heap.size (w1.alloc (.cells #[.int .i64 0, .int .i64 0] 36)) w2 := ⟨hb2.os, hb2.tape, hb2.output, hb2.size, hb2.block⟩; obtain ⟨⟨v0, v1⟩, v2, v3⟩ := HAL.out w1 w2 hb3))
      | fail "no")
    all_goals first
      | (
        have hfx : (((w2.setCell ⟨w1.heap.size, 0, none⟩ (.int .i64 ct)).setCell ⟨w1.heap.size, 1, none⟩ (.int .i64 cn)).heap[w1.heap.size]? = some (.cells #[.int .i64 ct, .int .i64 cn] 36 (0, 0))) ∧ Below w1.heap.size w1 ((w2.setCell ⟨w1.heap.size, 0, none⟩ (.int .i64 ct)).setCell ⟨w1.heap.size, 1, none⟩ (.int .i64 cn)) ∧ w1.heap.size ≤ w1.heap.size := by
          have hx := (hb3.block w1.heap.size (by simp)).trans (heap_alloc_new w1 _)
          refine ⟨?_, below_loc2 (sq (al _) hb3) _ _, Nat.le_refl _⟩
          have := heap_setN (heap_setN hx (j := 0) (.int .i64 ct)) (j := 1) (.int .i64 cn)
          simpa using this
        generalize (w2.setCell ⟨w1.heap.size, 0, none⟩ (.int .i64 ct)).setCell ⟨w1.heap.size, 1, none⟩ (.int .i64 cn) = W at *
        obtain ⟨LC, hLC⟩ : ∃ LC, w1.heap.size = LC := ⟨_, rfl⟩
        have hx1 := hfx.1
        have hx2 := hfx.2.1
        rw [hLC] at hx1 ⊢
        exact hk LC W ⟨hx1, hx2, Nat.le_of_eq hLC⟩)
      | (
        have hfx : ((w2.alloc (.cells #[.int .i64 ct, .int .i64 cn] 36)).heap[w2.heap.size]? = some (.cells #[.int .i64 ct, .int .i64 cn] 36 (0, 0))) ∧ Below w1.heap.size w1 (w2.alloc (.cells #[.int .i64 ct, .int .i64 cn] 36)) ∧ w1.heap.size ≤ w2.heap.size := ⟨heap_alloc_new _ _, hb3.trans ((al _).mono hb3.size), hb3.size⟩
        generalize w2.alloc (.cells #[.int .i64 ct, .int .i64 cn] 36) = W at *
        generalize w2.heap.size = LC at *
        exact hk LC W hfx)
  case later =>
    intro LC W hfx
    obtain ⟨hLC, hbW, hle⟩ := hfx
    have HBW := Lib.hid (HB1.out.trans (hbW.mono HB1.out.size))
    have HLA := Lib.hid ((hbW.block w.heap.size HLW.out).trans HL1.out)
    have HLC := Lib.hid hLC
    have HAW := Lib.hid (HA.out.below HBW.out)
    have HNL := Lib.hid (show ∀ k, M1 k ∨ M2 k ∨ M3 k → k < w.heap.size from fun k hk => (HA.out.lt k hk).2)
    have HNB := Lib.hid (show ∀ k, M1 k ∨ M2 k ∨ M3 k → B ≤ k from fun k hk => (HA.out.lt k hk).1)
    have HLW2 := Lib.hid (show w.heap.size < LC ∧ w.heap.size < W.heap.size from ⟨Nat.lt_of_lt_of_le HLW.out hle, Nat.lt_of_lt_of_le HLW.out hbW.size⟩)
    have HBB := Lib.hid (HBW.out.mono hB)
    have HGW2 := Lib.hid ((hbW.cell (p := ⟨G, 0, none⟩) HGW.out).trans m0)
    clear hLC hbW hle m0 a4 a5 hLl1 hGl1 HCX HAL HC0 HP1 HGW HLW HL1 HB1 HW0 HP0 HL0 HB0 hGl
    obtain ⟨a0, a1, a2, a3, a4, a5, a6⟩ := seven HLA.out
    obtain ⟨k0, k1⟩ := pairc HLC.out
    generalize q.kind = kd at a0
    by_cases hk1 : kd = 1
    · subst hk1
      go_wp2_with fail
      refine Calls.mono (alloc_any HAW.out.hm q.a q.b h63) ?_
      rintro e w4 ⟨rfl, hm4, hk4⟩
      have HA4 := Lib.hid (HAW.out.h hm4 hk4)
      have HL4 := Lib.hid (ke_out HLA.out (fun h => absurd (HNL.out _ (.inl h)) (Nat.lt_irrefl _)) hk4)
      have HS4 := Lib.hid (show w.heap.size < w4.heap.size from Nat.lt_of_lt_of_le HLW2.out.2 hk4.size)
      have HB4 := Lib.hid (HBB.out.trans (hk4.bel (fun k h => HNB.out k (.inl h)) (by have := HLW2.out.2; omega)))
      clear hm4 hk4 a0 a1 a2 a3 a4 a5 a6 k0 k1
      obtain ⟨_, s1, s2, _, _, _, _⟩ := seven HL4.out
      go_wp2_with fail
      refine Calls.mono (refAlloc_any HA4.out.sm q.a q.b h63) ?_
      intro e w5 h5
      obtain ⟨rfl, sm5, hk5⟩ := h5
      obtain ⟨M2', ha5⟩ := HA4.out.s (by have := HS4.out; omega) sm5 hk5
      have HA5 := Lib.hid ha5
      have HS5 := Lib.hid (show w.heap.size < w5.heap.size from Nat.lt_of_lt_of_le HS4.out hk5.size)
      have HB5 := Lib.hid (HB4.out.trans (hk5.bel (fun k h => HNB.out k (.inr (.inl h))) (by have := HS4.out; omega)))
      clear sm5 hk5 s1 s2 ha5
      generalize alR bs room q.a q.b = r at *
      obtain ⟨rx, re, rb⟩ := r
      by_cases hre : re = 0
      · subst hre
        obtain ⟨A5, c5, hG5, hown5, hin5⟩ := HA5.out.pl.ex
        have hG5l : G < w5.heap.size := (Array.getElem?_eq_some_iff.1 hG5).1
        have g5 : w5.cell? ⟨G, 0, none⟩ = some (.slice A5 l.length c5) := by rw [Lib.cell_of_heap hG5]; rfl
        have HO5 := Lib.hid hown5
        have HN5 := Lib.hid (show ∀ w6 : World, (w5.alloc (.cells #[.int .i64 rx] 3)).grownBy w6 (Value.slice A5 l.length c5).ownBlock → w6.heap[G]? = w5.heap[G]? from fun w6 hg => (hg.block G (by simp; omega) (fun e => own_neP hown5 hG5 (by decide) e.symm)).trans (Lib.alloc_old _ _ _ hG5l))
        have HG5 := Lib.hid hG5
        have HI5 := Lib.hid hin5
        obtain ⟨i1, ji, jz0, jz1, jz2⟩ := info_parts info_in
        clear hG5 hown5 hin5
        go_wp2_with (at_builtin; (refine wpList_append_rd _ rfl _ _ 31 rfl 0 3 i1 _ 1 8 Try.underlying31 ji jz0 jz1 jz2 rfl (by omega) (.slice A5 l.length c5) l.length (l.map (Value.int .i64)) rfl (HO5.out.alloc _) _ _ 1 1 [.int .i64 rx] rfl (Rd.one _ _ _ 1 rfl _ (by simp)) (one1 rfl) (by unfold maxLen; omega) (by omega) (Nat.zero_le _) ?_; intro A6 c6 w6 hown6 hgrow6 hob6; have HG6 := Lib.hid (HN5.out w6 hgrow6); have g6 : w6.cell? ⟨G, 0, none⟩ = some (.slice A5 l.length c5) := (World.cell?_of_block HG6.out).trans g5; have f6 : w6.frozen? ⟨G, 0, none⟩ = false := (World.frozen?_of_block HG6.out).trans (Lib.frozen_of_heap HG5.out 0)))
        go_ret
        obtain ⟨pl6, hk6⟩ := HA5.out.pl.push (x := rx) ((Ke.refl.alloc _).grown hgrow6 (fun k hk => .inl (HI5.out k hk))) hown6 (fun k hk => by
          rcases hob6 with e | e
          · exact .inl (HI5.out k (by rw [← e]; exact hk))
          · rw [hk] at e
            injection e with e
            right
            simp at e
            omega) HG6.out
        obtain ⟨M3', ha6⟩ := HA5.out.p (by have := HS5.out; omega) pl6 hk6
        exact ⟨M1, M2', M3', rb, l ++ [rx], rfl, ha6, by simp, Nat.le_trans (Nat.le_of_lt HS5.out) hk6.size, HB5.out.trans (hk6.bel (fun k h => HNB.out k (.inr (.inr h))) (by have := HS5.out; omega))⟩
      · have hre2 : (re == 0) = false := by simpa using hre
        clear hre
        go_wp2_with fail
        go_ret
        exact ⟨M1, M2', M3, rb, l, rfl, HA5.out, by omega, Nat.le_of_lt HS5.out, HB5.out⟩
    by_cases hk2 : kd = 2
    · subst hk2
      have HAD := Lib.hid (HAW.out.below (Below.refl W.heap.size W).drew)
      have HLC2 := Lib.hid (show ¬ M1 LC ∧ ¬ M2 LC ∧ ¬ M1 w.heap.size ∧ ¬ M2 w.heap.size from ⟨fun h => by have := HNL.out _ (.inl h); have := HLW2.out.1; omega, fun h => by have := HNL.out _ (.inr (.inl h)); have := HLW2.out.1; omega, fun h => absurd (HNL.out _ (.inl h)) (Nat.lt_irrefl _), fun h => absurd (HNL.out _ (.inr (.inl h))) (Nat.lt_irrefl _)⟩)
      have HF4 := Lib.hid (show ∀ w4 : World, HM w4 M1 P room (stB bs (ofP l q.at_) q.b (ct, cn)) → Ke M1 W.drew w4 → (AsI w4 B M1 M2 M3 P Q G room (stB bs (ofP l q.at_) q.b (ct, cn)) bs l ∧ w4.heap[w.heap.size]? = some (.cells (qqC q A c) 39 (0, 0)) ∧ w4.heap[LC]? = some (.cells #[.int .i64 ct, .int .i64 cn] 36 (0, 0))) ∧ w4.cell? ⟨w.heap.size, 2, none⟩ = some (.int .i64 q.b) ∧ w4.cell? ⟨LC, 0, none⟩ = some (.int .i64 ct) ∧ w4.cell? ⟨LC, 1, none⟩ = some (.int .i64 cn) from fun w4 hm hk => by
        have h1 := ke_out (w := W.drew) HLA.out HLC2.out.2.2.1 hk
        have h2 := ke_out (w := W.drew) HLC.out HLC2.out.1 hk
        exact ⟨⟨HAD.out.h hm hk, h1, h2⟩, (seven h1).2.2.1, (pairc h2).1, (pairc h2).2⟩)
      have HF5 := Lib.hid (show ∀ w4 w5 : World, w4.heap[w.heap.size]? = some (.cells (qqC q A c) 39 (0, 0)) → w4.heap[LC]? = some (.cells #[.int .i64 ct, .int .i64 cn] 36 (0, 0)) → Ke M2 w4 w5 → w5.cell? ⟨w.heap.size, 2, none⟩ = some (.int .i64 q.b) ∧ w5.cell? ⟨LC, 0, none⟩ = some (.int .i64 ct) ∧ w5.cell? ⟨LC, 1, none⟩ = some (.int .i64 cn) from fun w4 w5 h1 h2 hk => by
        have h1 := ke_out h1 HLC2.out.2.2.2 hk
        have h2 := ke_out h2 HLC2.out.2.1 hk
        exact ⟨(seven h1).2.2.1, (pairc h2).1, (pairc h2).2⟩)
      clear a1 a3 a4 a5 a6
      go_wp2_with fail
      clear a0
      have HC1 := Lib.hid (store_any HAD.out.hm (ofP l q.at_) q.b (ct, cn) (by omega))
      have HC2 := Lib.hid (fun (w4 : World) (h : AsI w4 B M1 M2 M3 P Q G room (stB bs (ofP l q.at_) q.b (ct, cn)) bs l) => refPut_any h.sm (ofP l q.at_) q.b (ct, cn) h63)
      go_region_held3 (fun w' => w'.cell? ⟨w.heap.size, 2, none⟩ = some (.int .i64 q.b) ∧ w'.cell? ⟨LC, 0, none⟩ = some (.int .i64 ct) ∧ w'.cell? ⟨LC, 1, none⟩ = some (.int .i64 cn)) (go_keep) (first
        | (go_at_call 20; go_must (refine Calls.mono HC1.out ?_; rintro e w4 ⟨rfl, hm4, hk4⟩; obtain ⟨h4, s2, s3, s4⟩ := HF4.out w4 hm4 hk4))
        | (go_at_call 21; go_must (refine Calls.mono (HC2.out w4 h4.1) ?_; rintro e w5 ⟨rfl, sm5, hk5⟩; obtain ⟨t2, t3, t4⟩ := HF5.out w4 w5 h4.2.1 h4.2.2 hk5)))
      have hs4 := hk4.size
      have hs5 := hk5.size
      have hsw := HLW2.out.2
      have hs4' : W.heap.size ≤ w4.heap.size := hs4
      obtain ⟨M2', ha5⟩ := h4.1.s (by omega) (sm5.more fun k hk => .inl hk) hk5
      have HA5 := Lib.hid ha5
      have HB5 := Lib.hid ((HBB.out.drew.trans (hk4.bel (fun k h => HNB.out k (.inl h)) (show B ≤ W.heap.size by omega))).trans (hk5.bel (fun k h => HNB.out k (.inr (.inl h))) (by omega)))
      have HS5 := Lib.hid (show w.heap.size ≤ w5.heap.size by omega)
      clear ha5 hs4 hs5 hsw hs4' sm5 hk5 hm4 hk4 h4 s2 s3 s4 t2 t3 t4 a2 k0 k1
      go_wp2_with fail
      go_ret
      exact ⟨M1, M2', M3, _, l, rfl, HA5.out, by omega, HS5.out, HB5.out⟩
    by_cases hk3 : kd = 3
    · subst hk3
      obtain ⟨x1, x2, xe, hlv⟩ := loadV_form bs (ofP l q.at_) q.b
      obtain ⟨cells, shapes, cv, zv, sv, hp, _⟩ := HAW.out.hm
      have HL1 := Lib.hid (load_any hp (ofP l q.at_) q.b (by omega))
      have HL2 := Lib.hid (fun (w4 : World) (hb : Below W.heap.size W w4) => show Calls Try.prog 23 #[.pointer (some ⟨Q, 0, none⟩), .int .i64 (ofP l q.at_), .int .i64 q.b] w4 (fun e w' => e = .returned (loadV bs (ofP l q.at_) q.b) ∧ Below w4.heap.size w4 w') from by
        obtain ⟨bv, ds, hs⟩ := (HAW.out.below hb).sm
        exact refLoad_any hs h63 _ _)
      rw [hlv] at HL1 HL2
      clear hp hlv a1 a3 a4 a5 a6 k0 k1
      go_wp2_with fail
      refine Calls.mono HL1.out ?_
      rintro e w4 ⟨rfl, hb4⟩
      have HB4 := Lib.hid (sq hb4 (al (.cells #[.int .i64 x1, .int .i64 x2] 36)))
      have s2 := ((World.cell?_of_block (HB4.out.block w.heap.size HLW2.out.2)).trans (seven HLA.out).2.2.1)
      have HX4 := Lib.hid (heap_alloc_new w4 (.cells #[.int .i64 x1, .int .i64 x2] 36))
      clear hb4 a0 a2
      go_upto_region 14 with (fail)
      generalize hw5 : w4.alloc (.cells #[.int .i64 x1, .int .i64 x2] 36) = w5 at *
      have HZ5 := Lib.hid (show w4.heap.size < w5.heap.size by rw [← hw5]; simp)
      clear hw5
      go_wp2_with fail
      refine Calls.mono (HL2.out w5 HB4.out) ?_
      rintro e w6 ⟨rfl, hb6⟩
      have HB6 := Lib.hid (HB4.out.trans (hb6.mono HB4.out.size))
      have r0 := (World.cell?_of_block (hb6.block w4.heap.size HZ5.out)).trans (pairc HX4.out).1
      have r1 := (World.cell?_of_block (hb6.block w4.heap.size HZ5.out)).trans (pairc HX4.out).2
      have HZ6 := Lib.hid (show w4.heap.size < w6.heap.size from Nat.lt_of_lt_of_le HZ5.out hb6.size)
      have hz6 := HZ6.out
      clear hb6 s2
      go_wp2_with fail
      go_ret
      have hb7 := sq HB6.out (al (.cells #[.int .i64 x1, .int .i64 x2] 36))
      exact ⟨M1, M2, M3, bs, l, rfl, HAW.out.below hb7, by omega, by have := hb7.size; have := HLW2.out.2; omega, HBB.out.trans (hb7.mono (by have := HLW2.out.2; omega))⟩
    by_cases hk4 : kd = 4
    · subst hk4
      obtain ⟨x1, x2, xe, hlv⟩ := lookV_form bs (ofP l q.at_)
      obtain ⟨cells, shapes, cv, zv, sv, hp, _⟩ := HAW.out.hm
      have HL1 := Lib.hid (look_any hp (ofP l q.at_) (by omega))
      have HL2 := Lib.hid (fun (w4 : World) (hb : Below W.heap.size W w4) => show Calls Try.prog 25 #[.pointer (some ⟨Q, 0, none⟩), .int .i64 (ofP l q.at_)] w4 (fun e w' => e = .returned (lookV bs (ofP l q.at_)) ∧ Below w4.heap.size w4 w') from by
        obtain ⟨bv, ds, hs⟩ := (HAW.out.below hb).sm
        exact refLook_any hs h63 _)
      rw [hlv] at HL1 HL2
      clear hp hlv a1 a2 a3 a4 a5 a6 k0 k1
      go_wp2_with fail
      refine Calls.mono HL1.out ?_
      rintro e w4 ⟨rfl, hb4⟩
      have HB4 := Lib.hid hb4
      clear hb4 a0
      go_wp2_with fail
      refine Calls.mono (HL2.out w4 HB4.out) ?_
      rintro e w6 ⟨rfl, hb6⟩
      have HB6 := Lib.hid (HB4.out.trans (hb6.mono HB4.out.size))
      clear hb6
      go_wp2_with fail
      go_ret
      exact ⟨M1, M2, M3, bs, l, rfl, HAW.out.below HB6.out, by omega, by have := HB6.out.size; have := HLW2.out.2; omega, HBB.out.trans (HB6.out.mono (by have := HLW2.out.2; omega))⟩
    by_cases hk5 : kd = 5
    · subst hk5
      have hgw := HGW2.out
      have HRW := Lib.hid (HR.out.into (Nat.le_refl _) HBW.out)
      have HPW := Lib.hid ((Rd.of_own HG1.out).into (Nat.le_refl _) HBW.out)
      obtain ⟨N, hN⟩ : ∃ N, N = q.roots.length := ⟨_, rfl⟩
      have HNN := Lib.hid hN
      have hN43 : N ≤ 8796093021952 := by omega
      rw [← hN] at a6 HRW
      clear hN a1 a2 a3 a4 a5 k0 k1 hgw
      obtain ⟨i0, hi, hz0, hz1, hz2⟩ := info_parts info_cl
      go_wp2_with fail
      clear a0 a6
      go_loopw [25, 26] (fun r v wr => ∃ (i c5 : Nat) (A5 : Option Addr), r = .slice A5 i c5 ∧ v = .int .i64 (i : Int) ∧ i ≤ N ∧ Hid (wr.ownsRow W.heap.size 36 2 (.slice A5 i c5) i (ceL ((q.roots.take i).map (ceP l)))) ∧ Hid (Below W.heap.size W wr)) (fun _ v _ => N - (intOf v).toNat)
      case atStart => exact ⟨0, 0, none, rfl, rfl, Nat.zero_le _, Lib.hid (World.ownsRow_nil _ _ _ _), Lib.hid (Below.refl _ _)⟩
      case round =>
        obtain ⟨i, c5, A5, rfl, rfl, hiN, HO, HB⟩ := hrel
        have HLR := Lib.hid ((HB.out.block w.heap.size HLW2.out.2).trans HLA.out)
        obtain ⟨_, _, _, _, _, _, a6⟩ := seven HLR.out
        rw [← HNN.out] at a6
        by_cases hlt : (i : Int) < (N : Int)
        · obtain ⟨x, hx⟩ : ∃ x, q.roots[i]? = some x := ⟨_, List.getElem?_eq_getElem (by have := HNN.out; omega)⟩
          obtain ⟨b, off, rfl, hbl, x0, x1⟩ := (HRW.out.below HB.out).cel (by omega) hx
          have HT := Lib.hid (show (q.roots.take (i + 1)).map (ceP l) = (q.roots.take i).map (ceP l) ++ [ceP l x] by rw [List.take_add_one, hx]; simp)
          have HBW5 := Lib.hid HB.out.size
          have HGL := Lib.hid (show G < W.heap.size ∧ w.heap.size < W.heap.size ∧ b < W.heap.size from ⟨by have := HGR.out; have := HLW2.out.2; omega, HLW2.out.2, hbl⟩)
          have g0 := (HB.out.cell (p := ⟨G, 0, none⟩) HGL.out.1).trans HGW2.out
          have HCX := Lib.hid (cell_any A0 l.length c0 l x wr.drew (HPW.out.into (Nat.le_refl _) HB.out.drew) rfl)
          generalize ceP l x = y at *
          obtain ⟨xt, xn⟩ := x
          obtain ⟨yt, yn⟩ := y
          simp only at x0 x1
          have HF := Lib.hid (show ∀ w4 : World, Below wr.heap.size wr w4 → (w4.cell? ⟨G, 0, none⟩ = some (.slice A0 l.length c0) ∧ w4.cell? ⟨w.heap.size, 6, none⟩ = some (.slice (some ⟨b, off, none⟩) N c) ∧ w4.cell? ⟨b, off + i * 2, none⟩ = some (.int .i64 xt) ∧ w4.cell? ⟨b, off + i * 2 + 1, none⟩ = some (.int .i64 xn)) ∧ (w4.alloc (.cells #[.int .i64 yt, .int .i64 yn] 36)).ownsRow W.heap.size 36 2 (.slice A5 i c5) i (ceL ((q.roots.take i).map (ceP l))) ∧ W.heap.size ≤ (w4.alloc (.cells #[.int .i64 yt, .int .i64 yn] 36)).heap.size from fun w4 hb => by
            have h1 := HBW5.out
            obtain ⟨q1, q2, q3⟩ := HGL.out
            have hs := hb.size
            exact ⟨⟨(hb.cell (p := ⟨G, 0, none⟩) (show G < wr.heap.size by omega)).trans g0, (hb.cell (p := ⟨w.heap.size, 6, none⟩) (show w.heap.size < wr.heap.size by omega)).trans a6, (hb.cell (p := ⟨b, off + i * 2, none⟩) (show b < wr.heap.size by omega)).trans x0, (hb.cell (p := ⟨b, off + i * 2 + 1, none⟩) (show b < wr.heap.size by omega)).trans x1⟩, (own_below HO.out hb).alloc _, by simp; omega⟩)
          have HF6 := Lib.hid (show ∀ w4 w6 : World, Below wr.heap.size wr w4 → (w4.alloc (.cells #[.int .i64 yt, .int .i64 yn] 36)).grownBy w6 (Value.slice A5 i c5).ownBlock → (w6.cell? ⟨G, 0, none⟩ = some (.slice A0 l.length c0) ∧ w6.cell? ⟨w.heap.size, 6, none⟩ = some (.slice (some ⟨b, off, none⟩) N c) ∧ w6.cell? ⟨b, off + i * 2, none⟩ = some (.int .i64 xt) ∧ w6.cell? ⟨b, off + i * 2 + 1, none⟩ = some (.int .i64 xn)) ∧ Below W.heap.size W w6 from fun w4 w6 hb hg => by
            have h1 := HBW5.out
            have hbb := (((HB.out.trans (hb.mono h1)).alloc (Nat.le_trans h1 hb.size) (.cells #[.int .i64 yt, .int .i64 yn] 36)).grown hg (by have := hb.size; simp; omega) (fun k hk => (HO.out.lt k hk).1))
            obtain ⟨q1, q2, q3⟩ := HGL.out
            exact ⟨⟨(hbb.cell (p := ⟨G, 0, none⟩) q1).trans HGW2.out, by rw [HNN.out]; exact (hbb.cell (p := ⟨w.heap.size, 6, none⟩) q2).trans (seven HLA.out).2.2.2.2.2.2, ((hbb.cell (p := ⟨b, off + i * 2, none⟩) q3).trans ((HB.out.cell (p := ⟨b, off + i * 2, none⟩) q3).symm)).trans x0, ((hbb.cell (p := ⟨b, off + i * 2 + 1, none⟩) q3).trans ((HB.out.cell (p := ⟨b, off + i * 2 + 1, none⟩) q3).symm)).trans x1⟩, hbb⟩)
          clear hx
          go_wp2_with fail
          go_region_held3 (fun w' => w'.cell? ⟨G, 0, none⟩ = some (.slice A0 l.length c0) ∧ w'.cell? ⟨w.heap.size, 6, none⟩ = some (.slice (some ⟨b, off, none⟩) N c) ∧ w'.cell? ⟨b, off + i * 2, none⟩ = some (.int .i64 xt) ∧ w'.cell? ⟨b, off + i * 2 + 1, none⟩ = some (.int .i64 xn)) (go_keep) (first
            | (go_at_call 17; go_must (refine Calls.mono HCX.out ?_; rintro e w4 ⟨rfl, hb4⟩; have hb5 : Below wr.heap.size wr w4 := ⟨hb4.os, hb4.tape, hb4.output, hb4.size, hb4.block⟩; obtain ⟨⟨s0, s1, s2, s3⟩, s4, s5⟩ := HF.out w4 hb5))
            | (refine step_append_flat rfl (.tmp 160) (.tmp 170) 37 rfl W.heap.size 36 i0 _ 2 16 Try.underlying37 hi hz0 hz1 hz2 rfl (by omega) (.slice A5 i c5) i (ceL ((q.roots.take i).map (ceP l))) rfl s4 _ _ 1 1 [.int .i64 yt, .int .i64 yn] rfl (Rd.one _ _ _ 2 rfl _ (by simp)) (by intro u hu; simp at hu; rcases hu with rfl | rfl <;> rfl) (by unfold maxLen; omega) (by omega) s5 ?_; intro A6 c6 w6 hown6 hgrow6; obtain ⟨⟨z0, z1, z2, z3⟩, hb6⟩ := HF6.out w4 w6 hb5 hgrow6))
          have HO6 := Lib.hid (show w6.ownsRow W.heap.size 36 2 (.slice A6 (i + 1) c6) (i + 1) (ceL ((q.roots.take (i + 1)).map (ceP l))) by rw [HT.out, ceL_app]; exact hown6)
          have HB6 := Lib.hid hb6
          clear hown6 hgrow6 hb6 hb5 hb4 s0 s1 s2 s3 s4 s5 z0 z1 z2 z3 g0 x0 x1
          go_wp2_with fail
          exact ⟨⟨i + 1, c6, A6, rfl, by simp, by omega, HO6, HB6⟩, by simp [intOf]; omega⟩
        · have hiE : i = N := by omega
          obtain ⟨RL, hRL⟩ : ∃ RL, RL = (q.roots.take i).map (ceP l) := ⟨_, rfl⟩
          have HLEN := Lib.hid (show i = RL.length by rw [hRL, List.length_map, List.length_take]; have := HNN.out; omega)
          have HO2 := HO.out
          rw [← hRL] at HO2
          have HO5 := Lib.hid HO2
          have hi16 : i * 16 ≤ 140737488351232 := by have := HNN.out; omega
          clear hRL hiE HO2 HO
          go_wp2_with (at_builtin; (refine wpList_append_new _ rfl _ _ 37 rfl 36 i0 _ 2 16 Try.underlying37 hi hz0 hz1 hz2 rfl (by omega) rfl wr.heap.size A5 i _ (ceL RL) rfl (Rd.of_own HO5.out) (ceL_one _) (by omega) (by unfold maxLen; omega) ?_; intro A7 c7 w7 hown7 hb7))
          have HO7 := Lib.hid hown7
          have HB7 := Lib.hid (HB.out.trans (hb7.mono HB.out.size))
          have HX7 := Lib.hid (own_below HO5.out hb7)
          have HA7 := Lib.hid (HAW.out.below HB7.out)
          clear hown7 hb7 a6
          refine Calls.mono (collect_any HA7.out.hm h63 A7 i c7 RL (Rd.of_own HO7.out) HLEN.out hi16) ?_
          rintro e w8 ⟨r1, hr1, rfl, hm8, hk8⟩
          have HA8 := Lib.hid (HA7.out.h hm8 hk8)
          have HX8 := Lib.hid (own_keep (M := fun k => W.heap.size ≤ k) HX7.out hk8 (fun k hk => (HX7.out.lt k hk).1) (fun k h1 h2 => by have := HNL.out k (.inl h2); have := HLW2.out.2; omega))
          have HR1 := Lib.hid hr1
          have HS8 := Lib.hid (show W.heap.size ≤ w8.heap.size from Nat.le_trans HB7.out.size hk8.size)
          have HB8 := Lib.hid ((HBB.out.trans (HB7.out.mono (by have := HLW2.out.2; omega))).trans (hk8.bel (fun k h => HNB.out k (.inl h)) (by have := HB7.out.size; have := HLW2.out.2; omega)))
          clear hr1 hm8 hk8
          go_wp2_with fail
          refine Calls.mono (refCollect_any HA8.out.sm h63 A5 i c5 RL (Rd.of_own HX8.out) HLEN.out hi16) ?_
          rintro e w9 ⟨r2, hr2, rfl, sm9, hk9⟩
          have hrr := HR1.out.same hr2
          subst hrr
          obtain ⟨M2', ha9⟩ := HA8.out.s (by have := HS8.out; have := HLW2.out.2; omega) sm9 hk9
          have HA9 := Lib.hid ha9
          have HB9 := Lib.hid (HB8.out.trans (hk9.bel (fun k h => HNB.out k (.inr (.inl h))) (by have := HS8.out; have := HLW2.out.2; omega)))
          have HS9 := Lib.hid (show w.heap.size ≤ w9.heap.size by have := HS8.out; have := HLW2.out.2; have := hk9.size; omega)
          clear ha9 sm9 hk9 hr2
          go_wp2_with fail
          go_ret
          exact ⟨M1, M2', M3, r1.2, l, rfl, HA9.out, by omega, HS9.out, HB9.out⟩
    by_cases hk6 : kd = 6
    · subst hk6
      obtain ⟨cells, shapes, cv, zv, sv, hp, _⟩ := HAW.out.hm
      have HL1 := Lib.hid (free_any hp (by omega))
      have HL2 := Lib.hid (show Calls Try.prog 11 #[.pointer (some ⟨Q, 0, none⟩)] W (fun e w' => e = .returned (.int .i64 ((room : Int) - (usedB bs : Int))) ∧ Below W.heap.size W w') from by
        obtain ⟨bv, ds, hs⟩ := HAW.out.sm
        exact refFree_any hs h63)
      clear hp a1 a2 a3 a4 a5 a6 k0 k1
      go_wp2_with fail
      refine Calls.mono HL1.out ?_
      rintro e w4 ⟨rfl, rfl⟩
      clear a0
      go_wp2_with fail
      refine Calls.mono HL2.out ?_
      rintro e w6 ⟨rfl, hb6⟩
      have HB6 := Lib.hid hb6
      clear hb6
      go_wp2_with fail
      go_ret
      exact ⟨M1, M2, M3, bs, l, rfl, HAW.out.below HB6.out, by omega, by have := HB6.out.size; have := HLW2.out.2; omega, HBB.out.trans (HB6.out.mono (by have := HLW2.out.2; omega))⟩
    · obtain ⟨cells, shapes, cv, zv, sv, hp, _⟩ := HAW.out.hm
      obtain ⟨bv, ds, hs⟩ := HAW.out.sm
      obtain ⟨A2, c2, e2⟩ := own_form hs.row
      subst e2
      have q1 := hs.boxc.2
      have hQl := hs.lt
      have HS := Lib.hid hs
      have HL1 := Lib.hid (blocks_any (hp.below (Below.refl W.heap.size W).drew) (by omega))
      have HFB := Lib.hid (show bs.length ≤ 4000 ∧ ∀ b ∈ bs, b.cells.length ≤ 4000 from ⟨Nat.le_trans (bs_len hs.fit) h63, fun b hb => by
        have h1 := (hs.fit.ge b hb).2
        have h2 : b.fin = b.at_ + 1 + b.cells.length := rfl
        omega⟩)
      have HL2 := Lib.hid (fun (w4 : World) (hb : Below W.heap.size W w4) (A4 : Option Addr) (c4 : Nat) (h : BlR w4 (.slice A4 bs.length c4) bs) => same_any A4 A2 bs.length c4 bs.length c2 bs w4 h ((hs.below hb).bk.read (hs.below hb).row) HFB.out.1 HFB.out.2)
      have HQ1 := Lib.hid (show ∀ w4 : World, Below W.heap.size W w4 → w4.cell? ⟨Q, 1, none⟩ = some (.slice A2 bs.length c2) from fun w4 hb => (hb.cell (p := ⟨Q, 1, none⟩) hQl).trans q1)
      clear hp hs a1 a2 a3 a4 a5 a6 k0 k1
      go_wp2_with fail
      clear a0
      go_region_held3 (fun w' => w'.cell? ⟨Q, 1, none⟩ = some (.slice A2 bs.length c2)) (go_keep) (first
        | (go_at_call 9; go_must (refine Calls.mono HL1.out ?_; rintro e w4 ⟨v, rfl, hbl, hb4⟩; obtain ⟨A4, c4, hv⟩ := BlR.form hbl; subst hv; have hb5 : Below W.heap.size W w4 := ⟨hb4.os, hb4.tape, hb4.output, hb4.size, hb4.block⟩; have hq4 := HQ1.out w4 hb5))
        | (go_at_call 8; go_must (refine Calls.mono (HL2.out w4 hb5 A4 c4 hbl) ?_; rintro e w5 ⟨rfl, hb6⟩; have hb7 : Below W.heap.size W w5 := Below.trans hb5 (Below.mono hb6 hb5.size); have hq5 := HQ1.out w5 hb7)))
      have HB6 := Lib.hid hb7
      clear hq4 hq5 hb4 hb5 hb6 hb7 hbl q1
      go_wp2_with fail
      go_ret
      exact ⟨M1, M2, M3, bs, l, rfl, HAW.out.below HB6.out, by omega, by have := HB6.out.size; have := HLW2.out.2; omega, HBB.out.trans (HB6.out.mono (by have := HLW2.out.2; omega))⟩
end Go.Proofs.Ythogfcdgbodccaa
