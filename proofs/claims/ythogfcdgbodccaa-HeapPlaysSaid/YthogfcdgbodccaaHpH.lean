/- The heap's Store. Conditions: none. -/
import Derived.Test.YthogfcdgbodccaaHpG
import Derived.Deep.RegionHeld3
set_option maxRecDepth 100000
namespace Go.Proofs.Ythogfcdgbodccaa
open Go.ChangeShapes Go.WideShapes Go.ChangeAt Go.RowKit
def lenB (bs : List BK) (a : Int) : Int := match blkAt bs a.toNat with | some b => (b.cells.length : Int) | none => 0
theorem lenB_at {bs : List BK} {k : Nat} {b : BK} (h : blkAt bs k = some b) : lenB bs (k : Int) = (b.cells.length : Int) := by
  unfold lenB
  rw [Int.toNat_natCast, h]
def stE (bs : List BK) (a i t : Int) : Int := if isB bs a = false then 16 else if 0 ≤ i ∧ i < lenB bs a then (if 0 ≤ t ∧ t ≤ 7 then 0 else 13) else 14
def stB (bs : List BK) (a i : Int) (c : Int × Int) : List BK := if stE bs a i c.1 = 0 then putB a.toNat i.toNat c bs else bs
theorem stB_no {bs : List BK} {a i : Int} {c : Int × Int} (h : stE bs a i c.1 ≠ 0) : stB bs a i c = bs := if_neg h
theorem HPc.putC {w : World} {base P room : Nat} {bs bs' : List BK} {cells : List (Int × Int)} {shapes : List Int} {zv sv : Value} {C n1 q : Nat} {c : Int × Int} (h : HPc w base P room bs cells shapes (.slice (some ⟨C, 0, none⟩) room n1) zv sv) (hf : FitB 0 bs' room) (hz : szL 0 bs' room = szL 0 bs room) (hr : RowB (cells.set q c) shapes bs') (hq : q < room) :
    HPc ((w.setCell ⟨C, q * 2, none⟩ (.int .i64 c.1)).setCell ⟨C, q * 2 + 1, none⟩ (.int .i64 c.2)) base P room bs' (cells.set q c) shapes (.slice (some ⟨C, 0, none⟩) room n1) zv sv := by
  have hPC : P ≠ C := fun e => own_neP h.cel h.box (by decide) (by rw [e]; rfl)
  have hk : ∀ z, z ≠ C → ((w.setCell ⟨C, q * 2, none⟩ (.int .i64 c.1)).setCell ⟨C, q * 2 + 1, none⟩ (.int .i64 c.2)).heap[z]? = w.heap[z]? := fun z hz => (Below.heap_setCell _ _ _ _ hz).trans (Below.heap_setCell _ _ _ _ hz)
  have hc := own_setC (own_setC h.cel (.int .i64 c.1) (k := q * 2)) (.int .i64 c.2) (k := q * 2 + 1)
  rw [ceL_set _ _ _ (by rw [h.lc]; exact hq)] at hc
  refine ⟨h.hP, (hk P hPC).trans h.box, hc, ?_, own_stay h.sha fun b hb => hk b fun e => own_ne h.sha h.cel (by decide) b hb (by rw [e]; rfl), h.dis, by rw [List.length_set]; exact h.lc, h.ls, hf, hr⟩
  rw [hz]
  exact own_stay h.siz fun b hb => hk b fun e => own_ne h.siz h.cel (by decide) b hb (by rw [e]; rfl)
theorem place_any {w : World} {base P room : Nat} {bs : List BK} {cells : List (Int × Int)} {shapes : List Int} {cv zv sv : Value} (h : HPc w base P room bs cells shapes cv zv sv) (a i : Int) (h63 : room < 9223372036854775000) (ne : Int) (hne : ne ≠ 0) (hE : stE bs a i 0 = ne) :
    Calls Try.prog 35 #[.pointer (some ⟨P, 0, none⟩), .int .i64 a, .int .i64 i] w fun e w' => e = .returned (.tuple #[.int .i64 0, .int .i64 ne]) ∧ Below w.heap.size w w' := by
  have hP : P < w.heap.size := (Array.getElem?_eq_some_iff.1 h.box).1
  cases hA : isB bs a with
  | false =>
    unfold stE at hE
    rw [if_pos hA] at hE
    subst hE
    exact place_no h a i hA
  | true =>
    obtain ⟨k, b, rfl, hb⟩ := isB_blk hA
    have := place_in h k b i hb h63 hP
    unfold stE at hE
    rw [if_neg (by rw [hA]; simp), lenB_at hb] at hE
    by_cases hi : 0 ≤ i ∧ i < (b.cells.length : Int)
    · rw [if_pos hi, if_pos (by omega)] at hE
      exact absurd hE.symm hne
    · rw [if_neg hi] at hE
      subst hE
      rw [if_neg hi] at this
      exact this
theorem stE_tag {bs : List BK} {a i t : Int} (h : stE bs a i 0 = 0) : stE bs a i t = if 0 ≤ t ∧ t ≤ 7 then 0 else 13 := by
  unfold stE at h ⊢
  split at h
  · cases h
  · split at h
    · rename_i h1 h2
      rw [if_neg h1, if_pos h2]
    · cases h
theorem stE_other {bs : List BK} {a i t : Int} (h : stE bs a i 0 ≠ 0) : stE bs a i t = stE bs a i 0 := by
  unfold stE at h ⊢
  split
  · rfl
  · split
    · rename_i h1 h2
      rw [if_neg h1, if_pos h2, if_pos (by omega)] at h
      exact absurd rfl h
    · rfl
theorem stE_in {bs : List BK} {a i : Int} (h : stE bs a i 0 = 0) : ∃ (k j : Nat) (b : BK) (c : Int × Int), a = (k : Int) ∧ i = (j : Int) ∧ blkAt bs k = some b ∧ b.cells[j]? = some c := by
  unfold stE at h
  split at h
  · cases h
  · rename_i hA
    obtain ⟨k, b, rfl, hb⟩ := isB_blk (by simpa using hA)
    split at h
    · rename_i hi
      rw [lenB_at hb] at hi
      obtain ⟨j, rfl⟩ : ∃ j : Nat, i = (j : Int) := ⟨i.toNat, by omega⟩
      exact ⟨k, j, b, _, rfl, rfl, hb, List.getElem?_eq_getElem (by omega)⟩
    · cases h
set_option maxHeartbeats 4000000 in
theorem store_any {w : World} {M : Nat → Prop} {P room : Nat} {bs : List BK} (h : HM w M P room bs) (a i : Int) (c : Int × Int) (h63 : room < 9223372036854775000) :
    Calls Try.prog 20 #[.pointer (some ⟨P, 0, none⟩), .int .i64 a, .int .i64 i, .agg #[.int .i64 c.1, .int .i64 c.2]] w fun e w' => e = .returned (.int .i64 (stE bs a i c.1)) ∧ HM w' M P room (stB bs a i c) ∧ Ke M w w' := by
  obtain ⟨cells, shapes, cv, zv, sv, h, hm⟩ := h
  have HC := Lib.hid h
  have HM' := Lib.hid hm
  have hP : P < w.heap.size := (Array.getElem?_eq_some_iff.1 h.box).1
  have HB := Lib.hid (show ∀ w' : World, Below w.heap.size w w' → HM w' M P room bs ∧ Ke M w w' from fun w' hb => ⟨⟨cells, shapes, cv, zv, sv, h.below hb, hm⟩, Ke.of hb⟩)
  obtain ⟨t, n⟩ := c
  by_cases h0 : stE bs a i 0 = 0
  · have hte := stE_tag (t := t) h0
    obtain ⟨k, j, b, x, rfl, rfl, hb, hx⟩ := stE_in h0
    by_cases ht : 0 ≤ t ∧ t ≤ 7
    · rw [if_pos ht] at hte
      have HT := Lib.hid hte
      have HV := Lib.hid (show stB bs (k : Int) (j : Int) (t, n) = putB k j (t, n) bs by unfold stB; rw [if_pos hte, Int.toNat_natCast, Int.toNat_natCast])
      have hjl := (List.getElem?_eq_some_iff.1 hx).1
      have hpl := place_in (HC.out.below (al (.cells #[.int .i64 t, .int .i64 n] 36))) k b (j : Int) hb h63 (by simp; omega)
      rw [if_pos ⟨by omega, by omega⟩, show ((k : Int) + 1 + (j : Int)) = ((k + 1 + j : Nat) : Int) by omega] at hpl
      have HPL := Lib.hid hpl
      obtain ⟨C, n1, rfl, d1, d2, hC, hr⟩ := h.cellAt hb hx
      obtain ⟨d0, _, _⟩ := h.cell0
      have hfc := own_cellC h.cel (k := (k + 1 + j) * 2) (u := .int .i64 x.1) (by
        have := ceL_get (l := cells) (i := k + 1 + j) (j := 0) (c := x) (by obtain ⟨hm1, he⟩ := blkAt_mem hb; rw [← he, h.row.cel b hm1 j hjl]; exact hx) (by omega)
        exact this)
      have HBX := Lib.hid (Array.getElem?_eq_some_iff.1 h.box)
      have hPC : P ≠ C := fun e => own_neP h.cel h.box (by decide) (by rw [e]; rfl)
      have HPUT := Lib.hid (show RowB (cells.set (k + 1 + j) (t, n)) shapes (putB k j (t, n) bs) from h.row.put h.fit hb hjl (by rw [h.lc]; exact Nat.le_refl _))
      clear h hpl hx hb hfc hte
      generalize k + 1 + j = q at *
      have ht0 : ¬ t < 0 := by omega
      have ht7 : ¬ 7 < t := by omega
      clear ht h0
      go_enter Try.func20, Try.ntmps20
      go_wp2_with fail
      refine Calls.mono HPL.out ?_
      rintro e w1 ⟨rfl, hb1⟩
      have hb := sq (al _) hb1
      obtain ⟨⟨c0, c1⟩, f0, f1⟩ := loc2 hb1
      have HC1 := Lib.hid (HC.out.below hb)
      have f2 : w1.frozen? ⟨C, q * 2, none⟩ = false := by obtain ⟨_, _, cur, e, _, e2, _⟩ := (HC1.out.cel.2).resolve_left (fun e => by cases e.1); injection e with e; injection e with e; injection e with e; subst e; exact Lib.frozen_of_heap e2 _
      have f3 : w1.frozen? ⟨C, q * 2 + 1, none⟩ = false := by obtain ⟨_, _, cur, e, _, e2, _⟩ := (HC1.out.cel.2).resolve_left (fun e => by cases e.1); injection e with e; injection e with e; injection e with e; subst e; exact Lib.frozen_of_heap e2 _
      have c2 := (hb.cell (p := ⟨C, q * 2, none⟩) hC).trans d1
      have c3 := (hb.cell (p := ⟨C, q * 2 + 1, none⟩) hC).trans d2
      have c4 := (hb.cell (p := ⟨P, 0, none⟩) hP).trans d0
      have hCP : C ≠ P := fun e => hPC e.symm
      have hCL : C ≠ w.heap.size := by omega
      have hLC : w.heap.size ≠ C := by omega
      clear d0 d1 d2
      go_wp2_with fail
      go_region_held3 (fun w' => w'.cell? ⟨P, 0, none⟩ = some (.slice (some ⟨C, 0, none⟩) room n1) ∧ w'.cell? ⟨w.heap.size, 0, none⟩ = some (.int .i64 t) ∧ w'.cell? ⟨w.heap.size, 1, none⟩ = some (.int .i64 n)) (go_keep) (fail)
      have HC2 := Lib.hid ((HC1.out.putC (q := q) (c := (t, n)) (putB_fit HC1.out.fit).1 (putB_fit HC1.out.fit).2 HPUT.out hr).below (Below.refl _ _).drew)
      have HK2 := Lib.hid ((((Ke.of (M := M) hb).set (g := C) (q * 2) (.int .i64 t) (.inl (HM'.out C (.inr (.inl rfl))))).set (g := C) (q * 2 + 1) (.int .i64 n) (.inl (HM'.out C (.inr (.inl rfl))))).drew)
      generalize ((w1.setCell { block := C, off := q * 2 } (Value.int IntKind.i64 t)).setCell { block := C, off := q * 2 + 1 } (Value.int IntKind.i64 n)).drew = w2 at *
      go_wp2_with fail
      go_ret
      refine ⟨by rw [HT.out]; rfl, ?_, HK2.out⟩
      rw [HV.out]
      exact ⟨_, _, _, _, _, HC2.out, HM'.out⟩
    · rw [if_neg ht] at hte
      have HT := Lib.hid hte
      have HV := Lib.hid (show stB bs (k : Int) (j : Int) (t, n) = bs from stB_no (by simp only; rw [hte]; decide))
      have hjl := (List.getElem?_eq_some_iff.1 hx).1
      have hpl := place_in (HC.out.below (al (.cells #[.int .i64 t, .int .i64 n] 36))) k b (j : Int) hb h63 (by simp; omega)
      rw [if_pos ⟨by omega, by omega⟩] at hpl
      have HPL := Lib.hid hpl
      have hlt : t < 0 ∨ 7 < t := by omega
      clear h hpl hx hb hte ht h0
      go_enter Try.func20, Try.ntmps20
      go_wp2_with fail
      refine Calls.mono HPL.out ?_
      rintro e w1 ⟨rfl, hb1⟩
      have hb := sq (al _) hb1
      obtain ⟨⟨c0, c1⟩, f0, f1⟩ := loc2 hb1
      rcases hlt with ht | ht
      · go_wp2_with fail
        go_ret
        exact ⟨by rw [HT.out]; rfl, by simp only [HV.out]; exact HB.out _ hb⟩
      · have ht0 : ¬ t < 0 := by omega
        go_wp2_with fail
        go_ret
        exact ⟨by rw [HT.out]; rfl, by simp only [HV.out]; exact HB.out _ hb⟩
  · have hte := stE_other (t := t) h0
    have hpl := place_any (HC.out.below (al (.cells #[.int .i64 t, .int .i64 n] 36))) a i h63 _ h0 rfl
    have HV := Lib.hid (show stB bs a i (t, n) = bs from stB_no (by simp only; rw [hte]; exact h0))
    have HPL := Lib.hid hpl
    have HT := Lib.hid hte
    generalize stE bs a i 0 = ne at *
    clear hpl h hm hte
    have hne : (ne != 0) = true := by simpa using h0
    go_enter Try.func20, Try.ntmps20
    go_wp2_with fail
    refine Calls.mono HPL.out ?_
    rintro e w1 ⟨rfl, hb1⟩
    have hb := sq (al _) hb1
    go_wp2_with fail
    go_ret
    exact ⟨by rw [HT.out]; rfl, by simp only [HV.out]; exact HB.out _ hb⟩
end Go.Proofs.Ythogfcdgbodccaa
