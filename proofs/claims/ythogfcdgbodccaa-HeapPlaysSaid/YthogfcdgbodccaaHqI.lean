/- The document's Alloc, whatever is asked; SameBlocks; the law's places. Conditions: bounds. -/
import Derived.Test.YthogfcdgbodccaaHqH
set_option maxRecDepth 100000
namespace Go.Proofs.Ythogfcdgbodccaa
open Go.ChangeShapes Go.WideShapes Go.ChangeAt Go.RowKit
theorem refAlloc_bad {w : World} {Q : Nat} (sh n : Int) (ne : Int) (hne : (sh < 1 ∨ 4 < sh) ∧ ne = 13 ∨ (1 ≤ sh ∧ sh ≤ 4) ∧ (n < 0 ∨ 300 < n) ∧ ne = 14) :
    Calls Try.prog 19 #[.pointer (some ⟨Q, 0, none⟩), .int .i64 sh, .int .i64 n] w fun e w' => e = .returned (.tuple #[.int .i64 0, .int .i64 ne]) ∧ w' = w := by
  rcases hne with ⟨h | h, rfl⟩ | ⟨h, h2 | h2, rfl⟩
  · go_enter Try.func19, Try.ntmps19
    go_wp2_with fail
    go_returns
    exact ⟨rfl, rfl⟩
  · have h0 : ¬ sh < 1 := by omega
    go_enter Try.func19, Try.ntmps19
    go_wp2_with fail
    go_returns
    exact ⟨rfl, rfl⟩
  · have h0 : ¬ sh < 1 := by omega
    have h1 : ¬ 4 < sh := by omega
    go_enter Try.func19, Try.ntmps19
    go_wp2_with fail
    go_returns
    exact ⟨rfl, rfl⟩
  · have h0 : ¬ sh < 1 := by omega
    have h1 : ¬ 4 < sh := by omega
    have h3 : ¬ n < 0 := by omega
    go_enter Try.func19, Try.ntmps19
    go_wp2_with fail
    go_returns
    exact ⟨rfl, rfl⟩
theorem refAlloc_any {w : World} {M : Nat → Prop} {Q room : Nat} {bs : List BK} (h : SM w M Q room bs) (sh n : Int) (h63 : room ≤ 4000) :
    Calls Try.prog 19 #[.pointer (some ⟨Q, 0, none⟩), .int .i64 sh, .int .i64 n] w (AlP w M Q room (alR bs room sh n)) := by
  by_cases h1 : sh < 1 ∨ 4 < sh
  · have e : alR bs room sh n = (0, 13, bs) := by unfold alR; rw [if_pos h1]
    rw [e]
    refine Calls.mono (refAlloc_bad sh n 13 (.inl ⟨h1, rfl⟩)) ?_
    rintro e w' ⟨rfl, rfl⟩
    exact ⟨rfl, h.more fun k hk => .inl hk, Ke.refl⟩
  · by_cases h2 : n < 0 ∨ 300 < n
    · have e : alR bs room sh n = (0, 14, bs) := by unfold alR; rw [if_neg h1, if_pos h2]
      rw [e]
      refine Calls.mono (refAlloc_bad sh n 14 (.inr ⟨by omega, h2, rfl⟩)) ?_
      rintro e w' ⟨rfl, rfl⟩
      exact ⟨rfl, h.more fun k hk => .inl hk, Ke.refl⟩
    · obtain ⟨m, rfl⟩ : ∃ m : Nat, n = (m : Int) := ⟨n.toNat, by omega⟩
      exact refAlloc_in h sh m h63 (by omega) (by omega)
/-- What a list of blocks that is read tells at a place. -/
theorem BlR.at_ {w : World} {A : Option Addr} {n c : Nat} {bs : List BK} (h : BlR w (.slice A n c) bs) : n = bs.length ∧ ∀ (i : Nat) (b : BK), bs[i]? = some b → ∃ R off D cd, A = some ⟨R, off, none⟩ ∧ R < w.heap.size ∧ w.cell? ⟨R, off + i * 3, none⟩ = some (.int .i64 (b.at_ : Int)) ∧ w.cell? ⟨R, off + i * 3 + 1, none⟩ = some (.int .i64 b.shape) ∧ w.cell? ⟨R, off + i * 3 + 2, none⟩ = some (.slice D b.cells.length cd) ∧ Rd w w.heap.size 2 D b.cells.length (ceL b.cells) := by
  obtain ⟨A', c', ds, e, hr, hl, hd⟩ := h
  injection e with e1 e2 e3
  subst e1 e2 e3
  refine ⟨rfl, fun i b hb => ?_⟩
  have hi := (List.getElem?_eq_some_iff.1 hb).1
  obtain ⟨d, hdi⟩ : ∃ d, ds[i]? = some d := ⟨_, List.getElem?_eq_getElem (by omega)⟩
  obtain ⟨D, cd, rfl, hrd⟩ := hd i b d hb hdi
  obtain ⟨R, off, e, hR, hc⟩ := hr.2 (by omega)
  have h0 := hc (i * 3 + 0) (.int .i64 (b.at_ : Int)) (by rw [blL_get hb hdi (by omega)]; rfl)
  have h1 := hc (i * 3 + 1) (.int .i64 b.shape) (by rw [blL_get hb hdi (by omega)]; rfl)
  have h2 := hc (i * 3 + 2) (.slice D b.cells.length cd) (by rw [blL_get hb hdi (by omega)]; rfl)
  exact ⟨R, off, D, cd, e, hR, h0, by rw [← Nat.add_assoc] at h1; exact h1, by rw [← Nat.add_assoc] at h2; exact h2, hrd⟩
set_option maxHeartbeats 8000000 in
theorem same_any (A B : Option Addr) (n c m d : Nat) (bs : List BK) (w : World) (ha : BlR w (.slice A n c) bs) (hb : BlR w (.slice B m d) bs) (hl : bs.length ≤ 4000) (hc : ∀ b ∈ bs, b.cells.length ≤ 4000) :
    Calls Try.prog 8 #[.slice A n c, .slice B m d] w fun e w' => e = .returned (.bool true) ∧ Below w.heap.size w w' := by
  have HA := Lib.hid ha
  have HB := Lib.hid hb
  have HCL := Lib.hid hc
  obtain ⟨rfl, _⟩ := ha.at_
  obtain ⟨rfl, _⟩ := hb.at_
  clear ha hb hc
  generalize hN : bs.length = N at *
  have HN := Lib.hid hN
  clear hN
  go_enter Try.func8, Try.ntmps8
  go_wp2_with fail
  go_loopw [14] (fun v wr => ∃ (i : Nat), v = .int .i64 (i : Int) ∧ i ≤ N ∧ Hid (Below w.heap.size w wr)) (fun v _ => N - (intOf v).toNat)
  case atStart => exact ⟨0, rfl, Nat.zero_le _, Lib.hid (Below.refl _ _)⟩
  case round =>
    obtain ⟨i, rfl, hi, HBE⟩ := hrel
    by_cases hlt : (i : Int) < (N : Int)
    · obtain ⟨b, hb⟩ : ∃ b, bs[i]? = some b := ⟨_, List.getElem?_eq_getElem (by have := HN.out; omega)⟩
      have hcl := HCL.out b (List.mem_of_getElem? hb)
      obtain ⟨R, off, D, cd, rfl, hR, x0, x1, x2, hrd⟩ := (HA.out.below HBE.out).at_.2 i b hb
      obtain ⟨R', off', D', cd', rfl, hR', y0, y1, y2, hrd'⟩ := (HB.out.below HBE.out).at_.2 i b hb
      have HRD := Lib.hid hrd
      have HRD' := Lib.hid hrd'
      have HC := Lib.hid (show ∀ wq : World, Below wr.heap.size wr wq → wq.cell? ⟨R, off + i * 3 + 2, none⟩ = some (.slice D b.cells.length cd) ∧ wq.cell? ⟨R', off' + i * 3 + 2, none⟩ = some (.slice D' b.cells.length cd') from fun wq hb => ⟨(hb.cell (p := ⟨R, off + i * 3 + 2, none⟩) hR).trans x2, (hb.cell (p := ⟨R', off' + i * 3 + 2, none⟩) hR').trans y2⟩)
      clear hb hrd hrd'
      generalize hbn : b.cells.length = bl at *
      have HBL := Lib.hid hbn
      clear hbn
      go_wp2_with fail
      go_quiet (fail)
      go_wp2_with fail
      clear x0 x1 x2 y0 y1 y2
      go_loopw [62] (fun v wq => ∃ (j : Nat), v = .int .i64 (j : Int) ∧ j ≤ bl ∧ Hid (Below wr.heap.size wr wq)) (fun v _ => bl - (intOf v).toNat)
      case atStart => exact ⟨0, rfl, Nat.zero_le _, Lib.hid (dr (Below.refl _ _) _)⟩
      case round =>
        obtain ⟨j, rfl, hj, HBQ⟩ := hrel
        obtain ⟨x2, y2⟩ := HC.out wr HBQ.out
        by_cases hlj : (j : Int) < (bl : Int)
        · obtain ⟨⟨ct, cn⟩, hcj⟩ : ∃ c, b.cells[j]? = some c := ⟨_, List.getElem?_eq_getElem (by have := HBL.out; omega)⟩
          obtain ⟨G, go, rfl, hG, z0, z1⟩ := ((HRD.out.below HBQ.out).cel (by omega) hcj)
          obtain ⟨G', go', rfl, hG', z0', z1'⟩ := ((HRD'.out.below HBQ.out).cel (by omega) hcj)
          simp only at z0 z1 z0' z1'
          clear hcj
          go_wp2_with fail
          go_quiet (fail)
          go_wp2_with fail
          exact ⟨⟨j + 1, by simp, by omega, Lib.hid (dr HBQ.out _)⟩, by simp [intOf]; omega⟩
        · go_wp2_with fail
          go_roundw
          case rel => exact ⟨i + 1, by simp, by omega, Lib.hid (HBE.out.trans (HBQ.out.mono HBE.out.size))⟩
          case measure => simp [intOf]; omega
    · go_wp2_with fail
      go_ret
      exact ⟨rfl, HBE.out⟩
def ofP (l : List Int) (x : Int) : Int := if 0 ≤ x ∧ x < (l.length : Int) then (l[x.toNat]?).getD 0 else x
def ceP (l : List Int) (c : Int × Int) : Int × Int := (c.1, if c.1 = 6 then ofP l c.2 else c.2)
theorem of_any (A : Option Addr) (n c : Nat) (l : List Int) (x : Int) (w : World) (h : Rd w w.heap.size 1 A n (l.map (Value.int .i64))) (hn : n = l.length) :
    Calls Try.prog 16 #[.agg #[.slice A n c], .int .i64 x] w fun e w' => e = .returned (.int .i64 (ofP l x)) ∧ Below w.heap.size w w' := by
  have HR := Lib.hid h
  have HN := Lib.hid hn
  clear h hn
  by_cases h1 : x < 0
  · have HO := Lib.hid (show ofP l x = x from if_neg (by omega))
    go_enter Try.func16, Try.ntmps16
    go_wp2_with fail
    go_ret
    exact ⟨by rw [HO.out]; rfl, al _⟩
  · have h0 : 0 ≤ x := by omega
    by_cases h2 : x < (n : Int)
    · obtain ⟨k, rfl⟩ : ∃ k : Nat, x = (k : Int) := ⟨x.toNat, by omega⟩
      obtain ⟨b, off, u, rfl, hb, hu, hc⟩ := HR.out.at1 (k := k) (by omega)
      obtain ⟨v, hv⟩ : ∃ v, l[k]? = some v := ⟨_, List.getElem?_eq_getElem (by have := HN.out; omega)⟩
      rw [List.getElem?_map, hv] at hu
      simp at hu
      subst hu
      have HO := Lib.hid (show ofP l (k : Int) = v by unfold ofP; rw [if_pos ⟨h0, by have := HN.out; omega⟩, Int.toNat_natCast, hv]; rfl)
      clear hv
      go_enter Try.func16, Try.ntmps16
      go_wp2_with fail
      go_ret
      exact ⟨by rw [HO.out]; rfl, al _⟩
    · have HO := Lib.hid (show ofP l x = x from if_neg (by have := HN.out; omega))
      go_enter Try.func16, Try.ntmps16
      go_wp2_with fail
      go_ret
      exact ⟨by rw [HO.out]; rfl, al _⟩
theorem below_one {w w1 : World} {g : Nat} (hb : Below w.heap.size w w1) (hg : w.heap.size ≤ g) (o : Nat) (v : Value) : Below w.heap.size w (w1.setCell ⟨g, o, none⟩ v) := Below.setCell hb (p := ⟨g, o, none⟩) hg v
set_option maxHeartbeats 4000000 in
theorem cell_any (A : Option Addr) (n c : Nat) (l : List Int) (x : Int × Int) (w : World) (h : Rd w w.heap.size 1 A n (l.map (Value.int .i64))) (hn : n = l.length) :
    Calls Try.prog 17 #[.agg #[.slice A n c], .agg #[.int .i64 x.1, .int .i64 x.2]] w fun e w' => e = .returned (.agg #[.int .i64 (ceP l x).1, .int .i64 (ceP l x).2]) ∧ Below w.heap.size w w' := by
  have HR := Lib.hid h
  have HN := Lib.hid hn
  obtain ⟨xt, xk⟩ := x
  clear h hn
  by_cases h1 : xt = 6
  · subst h1
    have HO := Lib.hid (show ceP l (6, xk) = (6, ofP l xk) from rfl)
    go_enter Try.func17, Try.ntmps17
    go_wp2_with fail
    have HB0 := Lib.hid (sq (sq (al (w := w) (.cells #[.slice A n c] 33)) (al (.cells #[.int .i64 6, .int .i64 xk] 36))) (al (.cells #[.int .i64 0, .int .i64 0] 36)))
    refine Calls.mono (of_any A n c l xk _ (HR.out.into (Nat.le_refl _) HB0.out) HN.out) ?_
    rintro e w3 ⟨rfl, hb3⟩
    have HB3 := Lib.hid (sq HB0.out hb3)
    have h1 := (hb3.block (w.heap.size + 1) (by simp)).trans ((Lib.alloc_old _ _ _ (by simp)).trans (heap_at _ (by simp)))
    have h2 := (hb3.block (w.heap.size + 1 + 1) (by simp)).trans (heap_at _ (by simp))
    have c0 : w3.cell? ⟨w.heap.size + 1, 0, none⟩ = some (.int .i64 6) := by rw [Lib.cell_of_heap h1]; rfl
    have c1 : w3.cell? ⟨w.heap.size + 1, 1, none⟩ = some (.int .i64 xk) := by rw [Lib.cell_of_heap h1]; rfl
    have c2 : w3.cell? ⟨w.heap.size + 1 + 1, 0, none⟩ = some (.int .i64 0) := by rw [Lib.cell_of_heap h2]; rfl
    have c3 : w3.cell? ⟨w.heap.size + 1 + 1, 1, none⟩ = some (.int .i64 0) := by rw [Lib.cell_of_heap h2]; rfl
    have f1 := Lib.frozen_of_heap h1 1
    have f2 := Lib.frozen_of_heap h2 0
    have f3 := Lib.frozen_of_heap h2 1
    clear h1 h2 hb3
    go_wp2_with fail
    refine bodyPost_ret (v := .agg #[.int .i64 6, .int .i64 (ofP l xk)]) (by simp [results, Try.results17, go_sem, c2, c3]) rfl ?_
    exact ⟨by rw [HO.out], below_one (below_one (below_one HB3.out (by omega) _ _) (by omega) _ _) (by omega) _ _⟩
  · have b1 : (xt == 6) = false := by simpa using h1
    have HO := Lib.hid (show ceP l (xt, xk) = (xt, xk) by unfold ceP; simp only; rw [if_neg h1])
    clear h1
    go_enter Try.func17, Try.ntmps17
    go_wp2_with fail
    refine bodyPost_ret (v := .agg #[.int .i64 xt, .int .i64 xk]) (by simp [results, Try.results17, go_sem]) rfl ?_
    exact ⟨by rw [HO.out], sq (sq (al _) (al _)) (al _)⟩
end Go.Proofs.Ythogfcdgbodccaa
