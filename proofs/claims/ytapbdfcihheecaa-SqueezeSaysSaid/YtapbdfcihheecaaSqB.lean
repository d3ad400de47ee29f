/- squeeze's 'thread': jumps to jumps go where these go. Conditions: the list fits what comes in. -/
import Derived.Test.YtapbdfcihheecaaSqA
import Derived.Test.YtapbdfcihheecaaSmC
import Derived.Deep.RegionLaw
set_option maxRecDepth 100000
namespace Go.Proofs.Ytapbdfcihheecaa
open Go.ChangeShapes Go.WideShapes Go.ChangeAt Go.RowKit
theorem heap_setA {w : World} {g o : Nat} {cs : Array Value} {t : TypeId} (hg : w.heap[g]? = some (.cells cs t (0, 0))) (v : Value) : (w.setCell ⟨g, o, none⟩ v).heap[g]? = some (.cells (cs.setIfInBounds o v) t (0, 0)) := by
  simp [World.setCell, Array.getElem?_modify, hg]
/-- One cell of a row of the call's own is written. -/
theorem own1_set {w : World} {base g n c k : Nat} {e : TypeId} {xs : List Value} (h : w.ownsRow base e 1 (.slice (some ⟨g, 0, none⟩) n c) n xs) (v : Value) : (w.setCell ⟨g, k, none⟩ v).ownsRow base e 1 (.slice (some ⟨g, 0, none⟩) n c) n (xs.set k v) := by
  obtain ⟨hl, h⟩ := h
  rcases h with ⟨h, _⟩ | ⟨g', cap, cur, h1, h2, h3, h4, h5, h6, h7⟩
  · cases h
  · injection h1 with h1 _ h1'
    injection h1 with h1
    injection h1 with h1
    subst h1 h1'
    refine ⟨by simpa using hl, .inr ⟨g, c, _, rfl, h2, heap_setA h3 v, h4, h5, by simpa using h6, ?_⟩⟩
    rw [Array.toList_setIfInBounds, List.take_set, h7]
theorem own1_cell {w : World} {base g n c k : Nat} {e : TypeId} {xs : List Value} (h : w.ownsRow base e 1 (.slice (some ⟨g, 0, none⟩) n c) n xs) {u : Value} (hu : xs[k]? = some u) : w.cell? ⟨g, k, none⟩ = some u ∧ w.frozen? ⟨g, k, none⟩ = false ∧ base ≤ g ∧ g < w.heap.size := by
  obtain ⟨hl, h⟩ := h
  rcases h with ⟨h, _⟩ | ⟨g', cap, cur, h1, h2, h3, h4, h5, h6, h7⟩
  · cases h
  · injection h1 with h1 _ h1'
    injection h1 with h1
    injection h1 with h1
    subst h1 h1'
    refine ⟨?_, Lib.frozen_of_heap h3 k, h2, (Array.getElem?_eq_some_iff.1 h3).1⟩
    rw [Lib.cell_of_heap h3]
    show cur[k]? = some u
    rw [← Array.getElem?_toList]
    rw [← h7, List.getElem?_take] at hu
    split at hu
    · exact hu
    · cases hu
theorem own1_form {w : World} {base n : Nat} {e : TypeId} {v : Value} {xs : List Value} (h : w.ownsRow base e 1 v n xs) (hn : 0 < n) : ∃ g c, v = .slice (some ⟨g, 0, none⟩) n c := by
  rcases h.2 with ⟨_, h⟩ | ⟨g, cap, _, h1, _⟩
  · omega
  · exact ⟨g, cap, h1⟩
theorem OwnI.form {w : World} {base n c : Nat} {t : TypeId} {E : Nat → Prop} {A : Option Addr} {l : List II} (h : Own II.sh t w base E (.slice A n c) l) (hn : 0 < n) : ∃ g, A = some ⟨g, 0, none⟩ := by
  obtain ⟨A', c', ess, e, hown, _⟩ := h
  injection e with e1 e2 e3
  subst e1 e2 e3
  rcases hown.2 with ⟨_, h⟩ | ⟨g, cap, _, h1, _⟩
  · omega
  · injection h1 with h1 _ _
    exact ⟨g, h1⟩
theorem flat_set {k j : Nat} {cs : List Value} : ∀ {ess : List (List Value)}, (∀ c ∈ ess, c.length = k) → cs.length = k → j < ess.length → (ess.set j cs).flatten = ess.flatten.take (j * k) ++ cs ++ ess.flatten.drop (j * k + k)
  | [], _, _, h => by simp at h
  | a :: r, h, hc, hj => by
    have ha : a.length = k := h a (by simp)
    rcases j with _ | j
    · simp [ha]
    · have ih := flat_set (k := k) (j := j) (cs := cs) (ess := r) (fun c hc => h c (by simp [hc])) hc (by simpa using hj)
      rw [List.set_cons_succ, List.flatten_cons, ih, List.flatten_cons, show (j + 1) * k = a.length + j * k by rw [Nat.add_mul]; omega, List.take_length_add_append, show a.length + j * k + k = a.length + (j * k + k) by omega, List.drop_length_add_append]
      simp
theorem size_ins (w : World) : Sem.run Try.prog (sizeOf 126) w = .ok 6 w := by kernel_rfl
/-- A struct of a row of the call's own is written. -/
theorem Own.setI {w : World} {base g n c k : Nat} {l : List II} (h : Own II.sh 126 w base (· < base) (.slice (some ⟨g, 0, none⟩) n c) l) (hk : k < n) {x : II} (hx : (-9223372036854775808 ≤ x.o ∧ x.o ≤ 9223372036854775807) ∧ (-9223372036854775808 ≤ x.a ∧ x.a ≤ 9223372036854775807) ∧ (-9223372036854775808 ≤ x.b ∧ x.b ≤ 9223372036854775807) ∧ (-9223372036854775808 ≤ x.c ∧ x.c ≤ 9223372036854775807) ∧ (-9223372036854775808 ≤ x.d ∧ x.d ≤ 9223372036854775807) ∧ (-9223372036854775808 ≤ x.e ∧ x.e ≤ 9223372036854775807)) :
    ∃ w', (Instr.storeAt 126 (.pointer (some ⟨g, k * 6, none⟩)) (.agg #[.int .i64 x.o, .int .i64 x.a, .int .i64 x.b, .int .i64 x.c, .int .i64 x.d, .int .i64 x.e])).run Try.prog w = .ok () w' ∧ Own II.sh 126 w' base (· < base) (.slice (some ⟨g, 0, none⟩) n c) (l.set k x) ∧ Below base w w' := by
  obtain ⟨A, c', ess, e, hown, hall⟩ := h
  injection e with e1 e2 e3
  subst e1 e2 e3
  rcases hown.2 with ⟨h, _⟩ | ⟨g', cap, cur, h1, h2, h3, h4, h5, h6, h7⟩
  · cases h
  · injection h1 with h1 _ h1'
    injection h1 with h1
    injection h1 with h1
    subst h1 h1'
    have hs6 : II.sh.size = 6 := rfl
    rw [hs6] at h6 h7
    have hrun := run_storeCells_at Try.prog g (k * 6) 126 [.int .i64 x.o, .int .i64 x.a, .int .i64 x.b, .int .i64 x.c, .int .i64 x.d, .int .i64 x.e] 0 cur w h3 (by rw [h6]; simp; omega) (by intro u hu; simp at hu; rcases hu with rfl | rfl | rfl | rfl | rfl | rfl <;> rfl)
    rw [Nat.add_zero] at hrun
    have he : ∀ c ∈ ess, c.length = 6 := hall.each
    have hel : ess.length = l.length := hall.1
    obtain ⟨vs, hvs⟩ : ∃ vs : List Value, vs = [.int .i64 x.o, .int .i64 x.a, .int .i64 x.b, .int .i64 x.c, .int .i64 x.d, .int .i64 x.e] := ⟨_, rfl⟩
    have hvl : vs.length = 6 := by rw [hvs]; rfl
    obtain ⟨nc, hnc⟩ : ∃ nc, nc = (cur.toList.take (k * 6) ++ vs ++ cur.toList.drop (k * 6 + 6)).toArray := ⟨_, rfl⟩
    have hrun2 : Sem.run Try.prog (storeCells ⟨g, k * 6, none⟩ [.int .i64 x.o, .int .i64 x.a, .int .i64 x.b, .int .i64 x.c, .int .i64 x.d, .int .i64 x.e]) w = .ok () (w.setRow g nc) := by rw [hnc, hvs]; exact hrun
    refine ⟨w.setRow g nc, ?_, ⟨some ⟨g, 0, none⟩, c, ess.set k vs, by simp, ⟨?_, .inr ⟨g, c, nc, by simp, h2, setRow_heap w g _ _ _ _ h3, by simpa using h4, h5, ?_, ?_⟩⟩, by simpa using hel, fun i y z hy hz => ?_⟩, ⟨rfl, rfl, rfl, by simp, fun q hq => setRow_other w g q _ (by omega)⟩⟩
    · simp only [Instr.storeAt, storeVar, Instr.sureAddr, Sem.run_bind, Sem.run_pure, Result.andThen_ok, Value.cells, size_ins]
      exact hrun2
    · rw [flatten_len (k := 6) (fun y hy => by
        rcases List.mem_or_eq_of_mem_set hy with hy | rfl
        · exact he y hy
        · exact hvl)]
      simp [hel, hs6]
    · rw [hnc]
      simp only [List.size_toArray, List.length_append, List.length_take, List.length_drop, Array.length_toList, hvl, h6, hs6]
      omega
    · rw [hs6, List.length_set, flat_set he hvl (by omega), ← h7, hnc]
      have hcl : cur.toList.length = c * 6 := by rw [Array.length_toList, h6]
      generalize cur.toList = cl at *
      have hl1 : (cl.take (k * 6) ++ vs).length = k * 6 + 6 := by rw [List.length_append, List.length_take, hvl, hcl]; omega
      rw [List.take_append, List.take_of_length_le (by rw [hl1]; omega), hl1, List.take_take, Nat.min_eq_left (by omega), List.drop_take]
    · by_cases hik : k = i
      · subst hik
        rw [List.getElem?_set_self (by omega)] at hy hz
        injection hy with hy
        injection hz with hz
        subst hz
        rw [← hy, hvs]
        obtain ⟨q0, q1, q2, q3, q4, q5⟩ := hx
        exact II.intro q0 q1 q2 q3 q4 q5
      · rw [List.getElem?_set_ne hik] at hy hz
        obtain ⟨rfl, q0, q1, q2, q3, q4, q5⟩ := II.elim (hall.2 i y z hy hz)
        exact II.intro q0 q1 q2 q3 q4 q5
/-- The six cells of a struct of a row of the call's own. -/
theorem Own.six {w : World} {base g n c k : Nat} {l : List II} (h : Own II.sh 126 w base (· < base) (.slice (some ⟨g, 0, none⟩) n c) l) {y : II} (hy : l[k]? = some y) :
    (w.cell? ⟨g, k * 6, none⟩ = some (.int .i64 y.o) ∧ w.cell? ⟨g, k * 6 + 1, none⟩ = some (.int .i64 y.a) ∧ w.cell? ⟨g, k * 6 + 2, none⟩ = some (.int .i64 y.b) ∧ w.cell? ⟨g, k * 6 + 3, none⟩ = some (.int .i64 y.c) ∧ w.cell? ⟨g, k * 6 + 4, none⟩ = some (.int .i64 y.d) ∧ w.cell? ⟨g, k * 6 + 5, none⟩ = some (.int .i64 y.e)) ∧ (∀ o, w.frozen? ⟨g, o, none⟩ = false) ∧ base ≤ g ∧ g < w.heap.size := by
  obtain ⟨b, off, e, _, e0, e1, e2, e3, e4, e5⟩ := (InsR.of_own h).at hy
  injection e with e
  injection e with e e'
  subst e e'
  simp only [Nat.zero_add] at e0 e1 e2 e3 e4 e5
  refine ⟨⟨e0, e1, e2, e3, e4, e5⟩, ?_, ?_⟩
  · obtain ⟨A', c', ess, e, hown, _⟩ := h
    injection e with e1 e2 e3
    subst e1 e2 e3
    rcases hown.2 with ⟨h, _⟩ | ⟨g', cap, cur, h1, h2, h3, _⟩
    · cases h
    · injection h1 with h1 _ h1'
      injection h1 with h1
      injection h1 with h1
      subst h1
      exact fun o => Lib.frozen_of_heap h3 o
  · have := h.ownlt (k := g) rfl
    exact this
theorem Own.put6 {w : World} {base g n c k : Nat} {l : List II} (h : Own II.sh 126 w base (· < base) (.slice (some ⟨g, 0, none⟩) n c) l) (hk : k < n) {x0 x1 x2 x3 x4 x5 : Int} (hx : (-9223372036854775808 ≤ x0 ∧ x0 ≤ 9223372036854775807) ∧ (-9223372036854775808 ≤ x1 ∧ x1 ≤ 9223372036854775807) ∧ (-9223372036854775808 ≤ x2 ∧ x2 ≤ 9223372036854775807) ∧ (-9223372036854775808 ≤ x3 ∧ x3 ≤ 9223372036854775807) ∧ (-9223372036854775808 ≤ x4 ∧ x4 ≤ 9223372036854775807) ∧ (-9223372036854775808 ≤ x5 ∧ x5 ≤ 9223372036854775807)) :
    Own II.sh 126 ((((((w.setCell ⟨g, k * 6, none⟩ (.int .i64 x0)).setCell ⟨g, k * 6 + 1, none⟩ (.int .i64 x1)).setCell ⟨g, k * 6 + 2, none⟩ (.int .i64 x2)).setCell ⟨g, k * 6 + 3, none⟩ (.int .i64 x3)).setCell ⟨g, k * 6 + 4, none⟩ (.int .i64 x4)).setCell ⟨g, k * 6 + 5, none⟩ (.int .i64 x5)) base (· < base) (.slice (some ⟨g, 0, none⟩) n c) (l.set k ⟨x0, x1, x2, x3, x4, x5⟩) ∧
    Below base w ((((((w.setCell ⟨g, k * 6, none⟩ (.int .i64 x0)).setCell ⟨g, k * 6 + 1, none⟩ (.int .i64 x1)).setCell ⟨g, k * 6 + 2, none⟩ (.int .i64 x2)).setCell ⟨g, k * 6 + 3, none⟩ (.int .i64 x3)).setCell ⟨g, k * 6 + 4, none⟩ (.int .i64 x4)).setCell ⟨g, k * 6 + 5, none⟩ (.int .i64 x5)) := by
  obtain ⟨w', hr, ho, hb⟩ := h.setI hk (x := ⟨x0, x1, x2, x3, x4, x5⟩) hx
  have hln : n = l.length := (InsR.of_own h).1
  obtain ⟨y, hy⟩ : ∃ y, l[k]? = some y := ⟨_, List.getElem?_eq_getElem (by omega)⟩
  obtain ⟨⟨c0, c1, c2, c3, c4, c5⟩, f, _, _⟩ := h.six hy
  have h6 : (Instr.storeAt 126 (.pointer (some ⟨g, k * 6, none⟩)) (.agg #[.int .i64 x0, .int .i64 x1, .int .i64 x2, .int .i64 x3, .int .i64 x4, .int .i64 x5])).run Try.prog w = .ok () ((((((w.setCell ⟨g, k * 6, none⟩ (.int .i64 x0)).setCell ⟨g, k * 6 + 1, none⟩ (.int .i64 x1)).setCell ⟨g, k * 6 + 2, none⟩ (.int .i64 x2)).setCell ⟨g, k * 6 + 3, none⟩ (.int .i64 x3)).setCell ⟨g, k * 6 + 4, none⟩ (.int .i64 x4)).setCell ⟨g, k * 6 + 5, none⟩ (.int .i64 x5)) := by
    simp [go_sem, Instr.storeAt, Instr.sureAddr, storeVar, c0, c1, c2, c3, c4, c5, f]
  rw [h6] at hr
  injection hr with _ hr
  subst hr
  exact ⟨ho, hb⟩
def mixT (l : List II) (k : Nat) : List II := (l.take k).map (thrI l) ++ l.drop k
theorem mixT_len (l : List II) (k : Nat) : (mixT l k).length = l.length := by simp [mixT]; omega
theorem mixT_zero (l : List II) : mixT l 0 = l := by simp [mixT]
theorem mixT_full (l : List II) : mixT l l.length = thread l := by simp [mixT, thread]
theorem mixT_step {l : List II} {k : Nat} {x : II} (hx : l[k]? = some x) : mixT l (k + 1) = (mixT l k).set k (thrI l x) := by
  obtain ⟨hk, _⟩ := List.getElem?_eq_some_iff.1 hx
  unfold mixT
  rw [List.take_add_one, hx, List.map_append, List.set_append, if_neg (by simp; omega)]
  simp [Nat.min_eq_left (Nat.le_of_lt hk)]
  rw [List.drop_eq_getElem_cons hk, List.set_cons_zero]
theorem mixT_at {l : List II} {k : Nat} {x : II} (hx : l[k]? = some x) : (mixT l k)[k]? = some x := by
  obtain ⟨hk, he⟩ := List.getElem?_eq_some_iff.1 hx
  unfold mixT
  rw [List.getElem?_append_right (by simp; omega)]
  simp [Nat.min_eq_left (Nat.le_of_lt hk), he, hk]
theorem mixT_stay {l : List II} {k : Nat} {x : II} (hx : l[k]? = some x) (h : thrI l x = x) : mixT l (k + 1) = mixT l k := by
  obtain ⟨hk, he⟩ := List.getElem?_eq_some_iff.1 hx
  unfold mixT
  rw [List.take_add_one, hx, List.map_append, List.drop_eq_getElem_cons hk, he]
  simp [h]
theorem step_wp {P : Program} {ops : Array Oper} {o : Oper} {a : Act} {w : World} {K : Act → World → Prop} {Q : Exit → Act → World → Prop} {E : Prop} (hgd : o.guard = none) (h : Oper.wp P o a w K Q) : if Region.wanted o (yielded ops a.tmps) = true then Oper.wp P o a w K Q else E := by
  have hw : Region.wanted o (yielded ops a.tmps) = true := by simp [Region.wanted, hgd]
  rw [if_pos hw]
  exact h
theorem thread_any (A : Option Addr) (n c : Nat) (l : List II) (w : World) (h : InsR w w.heap.size A n l) (hl : InB l) (hn : n ≤ 1000000) :
    Calls Try.prog 93 #[.slice A n c] w fun e w' => ∃ A' c', e = .returned (.slice A' n c') ∧ InsR w' w'.heap.size A' n (thread l) ∧ Below w.heap.size w w' := by
  have HI := Lib.hid h
  have HL := Lib.hid hl
  have HN := Lib.hid h.1
  clear h hl
  go_enter Try.func93, Try.ntmps93
  go_wp2_with fail
  refine Calls.mono (insClone_any A n c l w HI.out hn) ?_
  rintro e w1 ⟨A1, c1, rfl, hown, hb1⟩
  have HO := Lib.hid hown
  have HB := Lib.hid hb1
  clear hown hb1
  go_wp2_with fail
  go_loopw [12] (fun i wr => ∃ k : Nat, k ≤ n ∧ i = .int .i64 (k : Int) ∧ Hid (Own II.sh 126 wr w.heap.size (· < w.heap.size) (.slice A1 n c1) (mixT l k)) ∧ Hid (Below w.heap.size w wr)) (fun i _ => n - (intOf i).toNat)
  case atStart => exact ⟨0, Nat.zero_le _, rfl, by rw [mixT_zero]; exact HO, HB⟩
  case round =>
    obtain ⟨k, hk, rfl, HOR, HBR⟩ := hrel
    by_cases hlt : k < n
    · obtain ⟨x, hx⟩ : ∃ x, l[k]? = some x := ⟨_, List.getElem?_eq_getElem (by have := HN.out; omega)⟩
      obtain ⟨b, off, hA, hb, e0, e1, e2, e3, e4, e5⟩ := (HI.out.below HBR.out).at hx
      have hbw : b < wr.heap.size := Nat.lt_of_lt_of_le hb HBR.out.size
      have HX := Lib.hid hx
      have HBD := Lib.hid (HI.out.bd (List.mem_of_getElem? hx))
      have HTG := Lib.hid (show tgV x = if tgtB x.o = true then some (tgtN x.o x.a x.b) else none from rfl)
      subst hA
      obtain ⟨xo, xa, xb, xc, xd, xe⟩ := x
      simp only at e0 e1 e2 e3 e4 e5 HBD HTG
      clear hx
      go_wp2_with fail
      refine Calls.mono (guardTarget_any xo xa xb xc xd xe _) ?_
      rintro e w2 ⟨rfl, hb2⟩
      have HB2 := Lib.hid (sq (sq HBR.out (al _)) hb2)
      have hf := (hb2.block wr.heap.size (by simp)).trans (heap_alloc_new wr _)
      have HF := Lib.hid hf
      have HO2 := Lib.hid ((HOR.out.below (al (.cells #[.int .i64 xo, .int .i64 xa, .int .i64 xb, .int .i64 xc, .int .i64 xd, .int .i64 xe] 126))).below hb2)
      clear hb2
      cases htb : tgtB xo with
      | false =>
        have hst : thrI l ⟨xo, xa, xb, xc, xd, xe⟩ = ⟨xo, xa, xb, xc, xd, xe⟩ := by unfold thrI; rw [HTG.out, htb]; rfl
        have HM := Lib.hid (mixT_stay HX.out hst)
        clear hst hf htb
        go_wp2_with fail
        go_roundw
        case rel => exact ⟨k + 1, by omega, by go_num, by rw [HM.out]; exact HO2, HB2⟩
        case measure => simp [intOf]; omega
      | true =>
        have htg : tgV ⟨xo, xa, xb, xc, xd, xe⟩ = some (tgtN xo xa xb) := by rw [HTG.out, htb]; rfl
        have htl := HL.out _ (List.mem_of_getElem? HX.out) _ htg
        obtain ⟨t, ht⟩ : ∃ t : Nat, tgtN xo xa xb = (t : Int) := ⟨(tgtN xo xa xb).toNat, by omega⟩
        rw [ht] at htl htg
        have htn : t < n := by have := HN.out; omega
        have HEV := Lib.hid (show endV l t ≤ 1000000 by have := endV_lt HL.out (p := t) (by omega); have := HN.out; omega)
        have HM := Lib.hid (show mixT l (k + 1) = (mixT l k).set k ⟨xo, aimA xo xa (endV l t : Int), aimB xo xb (endV l t : Int), xc, xd, xe⟩ by
          rw [mixT_step HX.out]
          congr 1
          unfold thrI
          rw [htg]
          simp only [Int.toNat_natCast, aimV_eq])
        obtain ⟨g, hv⟩ := OwnI.form HO2.out (by omega)
        subst hv
        have HYK := Lib.hid (show (mixT l k)[k]? = some _ from mixT_at HX.out)
        have HIW := Lib.hid (fun W (hW : Below w.heap.size w W) => HI.out.into (Nat.le_refl _) hW)
        have d0 : w2.cell? ⟨wr.heap.size, 0, none⟩ = some (.int .i64 xo) := by rw [Lib.cell_of_heap hf]; rfl
        have d1 : w2.cell? ⟨wr.heap.size, 1, none⟩ = some (.int .i64 xa) := by rw [Lib.cell_of_heap hf]; rfl
        have d2 : w2.cell? ⟨wr.heap.size, 2, none⟩ = some (.int .i64 xb) := by rw [Lib.cell_of_heap hf]; rfl
        have d3 : w2.cell? ⟨wr.heap.size, 3, none⟩ = some (.int .i64 xc) := by rw [Lib.cell_of_heap hf]; rfl
        have d4 : w2.cell? ⟨wr.heap.size, 4, none⟩ = some (.int .i64 xd) := by rw [Lib.cell_of_heap hf]; rfl
        have d5 : w2.cell? ⟨wr.heap.size, 5, none⟩ = some (.int .i64 xe) := by rw [Lib.cell_of_heap hf]; rfl
        have HEN := Lib.hid (fun W (hW : Below w.heap.size w W) => end_any (some ⟨b, off, none⟩) n c t l W (HI.out.into (Nat.le_refl _) hW) HL.out htn (by omega))
        have HXB := Lib.hid (show ∀ p : Nat, p ≤ 1000000 → (-9223372036854775808 ≤ xo ∧ xo ≤ 9223372036854775807) ∧ (-9223372036854775808 ≤ aimA xo xa (p : Int) ∧ aimA xo xa (p : Int) ≤ 9223372036854775807) ∧ (-9223372036854775808 ≤ aimB xo xb (p : Int) ∧ aimB xo xb (p : Int) ≤ 9223372036854775807) ∧ (-9223372036854775808 ≤ xc ∧ xc ≤ 9223372036854775807) ∧ (-9223372036854775808 ≤ xd ∧ xd ≤ 9223372036854775807) ∧ (-9223372036854775808 ≤ xe ∧ xe ≤ 9223372036854775807) from fun p hp => by
          have := HBD.out
          unfold aimA aimB
          split <;> omega)
        clear htl htg htb hf
        generalize endV l t = ev at *
        rw [ht]
        clear ht HI
        go_wp2_with fail
        go_region_law (first
          | (go_simp; (go_at_call 130); refine (HEN.out _ (dr HB2.out 1)).mono ?_; rintro e w3 ⟨rfl, rfl⟩; go_wp2_with fail)
          | (go_simp; (go_at_call 129); refine (aim_any xo xa xb xc xd xe (ev : Int) _).mono ?_; rintro e w4 ⟨rfl, hb4⟩; have HO4 := Lib.hid ((HO2.out.below (Below.refl w2.heap.size w2).drew).below hb4); obtain ⟨⟨k0, k1, k2, k3, k4, k5⟩, kf, kg, _⟩ := HO4.out.six (k := k) HYK.out; have kf0 := kf (k * 6); have kf1 := kf (k * 6 + 1); have kf2 := kf (k * 6 + 2); have kf3 := kf (k * 6 + 3); have kf4 := kf (k * 6 + 4); have kf5 := kf (k * 6 + 5); clear kf; go_wp2_with fail)
          | fail "no")
        all_goals (
          obtain ⟨ho6, hb6⟩ := HO4.out.put6 hlt (HXB.out ev HEV.out)
          have HO6 := Lib.hid ho6
          have HB6 := Lib.hid ((sq (dr HB2.out 1) hb4).trans hb6)
          clear ho6 hb6
          go_wp2_with fail
          go_roundw
          case rel => exact ⟨k + 1, by omega, by go_num, by rw [HM.out]; exact HO6, HB6⟩
          case measure => simp [intOf]; omega)
    · obtain rfl : k = n := by omega
      go_wp2_with fail
      go_ret
      refine ⟨A1, c1, rfl, ?_, HBR.out⟩
      have := InsR.of_own HOR.out
      rwa [show mixT l k = thread l by rw [HN.out, mixT_full]] at this
end Go.Proofs.Ytapbdfcihheecaa
