/- What the program asks of a node by itself: right, where a kid is looked at; a result. Conditions: the kid is a node of the tree. -/
import Derived.Test.YtkpejdkffkhekaaGreatDoorPgR
set_option maxRecDepth 100000
namespace Go.Proofs.YtkpejdkffkhekaaGreatDoor
open Go.ChangeShapes Go.WideShapes Go.ChangeAt Go.RowKit
set_option maxHeartbeats 4000000 in
theorem right_result {T : List ND} {A : Option Addr} {c : Nat} {x : ND} {v : Value} {w : World} (h : x.kind = 4) (ht : x.typ.size ≤ 140737488351232) : RgC T A c x v w := by
  obtain ⟨kd, tx, ty, nm, ks⟩ := x
  unfold RgC
  generalize hres : rgP T _ = R
  unfold rgP emB at hres
  simp only at h ht hres ⊢
  subst h
  simp only [Int.reduceEq, if_true, if_false, or_self] at hres
  cases hty : ty.toList.isEmpty with
  | true =>
    rw [hty, if_pos rfl] at hres
    have HRE := Lib.hid hres
    clear hres
    go_enter Tryz.func23, Tryz.ntmps23
    go_wp2_with fail
    all_goals (
      go_ret
      refine ⟨?_, al _⟩
      rw [← HRE.out]
      first
        | (simp [*]; done)
        | (simp [*]; rfl))
  | false =>
    rw [hty, if_neg (by simp)] at hres
    have HT := Lib.hid ht
    cases htx : tx.toList.isEmpty with
    | true =>
      rw [htx, Bool.true_or, Bool.true_and] at hres
      have HRE := Lib.hid hres
      clear hres ht
      go_enter Tryz.func23, Tryz.ntmps23
      go_wp2_with fail
      refine Calls.mono (typesValid_any _ _ HT.out) ?_
      rintro e w2 ⟨rfl, hb⟩
      have g3 := hb.cell (p := ⟨w.heap.size, 3, none⟩) (by simp)
      simp [go_sem] at g3
      have HB := Lib.hid (show Below w.heap.size w w2 from sq (al _) hb)
      clear hb
      generalize tyOk ty = b at *
      cases b
      all_goals go_wp2_with fail
      all_goals (
        go_ret
        refine ⟨?_, HB.out⟩
        rw [← HRE.out]
        first
          | (simp [*]; done)
          | (simp [*]; rfl))
    | false =>
      rw [htx, Bool.false_or] at hres
      have HRE := Lib.hid hres
      clear hres ht
      go_enter Tryz.func23, Tryz.ntmps23
      go_wp2_with fail
      refine Calls.mono (pnamed_any _ _) ?_
      rintro e w1 ⟨rfl, hb⟩
      have g2 := hb.cell (p := ⟨w.heap.size, 2, none⟩) (by simp)
      have g3 := hb.cell (p := ⟨w.heap.size, 3, none⟩) (by simp)
      simp [go_sem] at g2 g3
      have HB := Lib.hid (show Below w.heap.size w w1 from sq (al _) hb)
      have hlt : w.heap.size < w1.heap.size := by have := hb.size; simp at this; omega
      clear hb
      generalize oneB 1 tx.data.toList = b at *
      cases b with
      | false =>
        go_wp2_with fail
        go_ret
        exact ⟨by rw [← HRE.out]; rfl, HB.out⟩
      | true =>
        go_wp2_with fail
        refine Calls.mono (typesValid_any _ _ HT.out) ?_
        rintro e w2 ⟨rfl, hb⟩
        have g5 := (hb.cell (p := ⟨w.heap.size, 3, none⟩) hlt).trans g3
        have HB2 := Lib.hid (sq HB.out hb)
        clear hb g2 g3
        generalize tyOk ty = b at *
        cases b
        all_goals go_wp2_with fail
        all_goals (
          go_ret
          refine ⟨?_, HB2.out⟩
          rw [← HRE.out]
          first
            | (simp [*]; done)
            | (simp [*]; rfl))
/-- The cells of a node's first kid. -/
theorem kid0_cells {T : List ND} {A : Option Addr} {c : Nat} {x : ND} {A4 : Option Addr} {w : World} (h : (Shp.slice ND.sh).rd w (· < w.heap.size) [.slice A T.length c] T) (r4 : RdM w (· < w.heap.size) 1 A4 x.kids.length (x.kids.map (Value.int .i64))) (hk : ∃ (q : Nat) (y : ND), x.kids[0]? = some (q : Int) ∧ T[q]? = some y) :
    ∃ (b off b5 o5 q : Nat) (c4 : Nat) (A5 : Option Addr), A = some ⟨b, off, none⟩ ∧ A4 = some ⟨b5, o5, none⟩ ∧ b < w.heap.size ∧ b5 < w.heap.size ∧ 0 < x.kids.length ∧ q < T.length ∧ w.cell? ⟨b5, o5, none⟩ = some (.int .i64 (q : Int)) ∧
      w.cell? ⟨b, off + q * 5, none⟩ = some (.int .i64 (kid0 T x).kind) ∧ w.cell? ⟨b, off + q * 5 + 1, none⟩ = some (.string (kid0 T x).text) ∧ w.cell? ⟨b, off + q * 5 + 2, none⟩ = some (.string (kid0 T x).typ) ∧ w.cell? ⟨b, off + q * 5 + 3, none⟩ = some (.int .i64 (kid0 T x).num) ∧ w.cell? ⟨b, off + q * 5 + 4, none⟩ = some (.slice A5 (kid0 T x).kids.length c4) := by
  obtain ⟨q, y, hq, hy⟩ := hk
  have hl : 0 < x.kids.length := (List.getElem?_eq_some_iff.1 hq).1
  have hqT := (List.getElem?_eq_some_iff.1 hy).1
  obtain ⟨b5, o5, rfl, hb5, hcl⟩ := r4.2 hl
  have z0 := hcl 0 (.int .i64 (q : Int)) (by rw [List.getElem?_map, hq]; rfl)
  obtain ⟨A', c', ess, e, hlc, hcm, _, hr, hall⟩ := h
  simp at e
  obtain ⟨rfl, rfl⟩ := e
  obtain ⟨b, off, cs, y', rfl, hb, hy', hrd, hcell⟩ := Shp.elem hr hall hqT rfl
  rw [hy] at hy'
  injection hy' with hy'
  subst hy'
  obtain ⟨A5, c4, rfl, _⟩ := ND.elim hrd
  have hkid : kid0 T x = y := by
    unfold kid0
    rw [hq, Option.bind_some, Int.toNat_natCast, hy]
    rfl
  have e0 := hcell 0 _ rfl
  have e1 := hcell 1 _ rfl
  have e2 := hcell 2 _ rfl
  have e3 := hcell 3 _ rfl
  have e4 := hcell 4 _ rfl
  rw [hkid]
  exact ⟨b, off, b5, o5, q, c4, A5, rfl, rfl, hb, hb5, hl, hqT, z0, e0, e1, e2, e3, e4⟩
set_option maxHeartbeats 4000000 in
theorem right_unary {T : List ND} {A : Option Addr} {c : Nat} {x : ND} {A4 : Option Addr} {c4 : Nat} {w : World} (hk26 : x.kind = 26) (h : (Shp.slice ND.sh).rd w (· < w.heap.size) [.slice A T.length c] T) (r4 : RdM w (· < w.heap.size) 1 A4 x.kids.length (x.kids.map (Value.int .i64))) (hk : ∃ (q : Nat) (y : ND), x.kids[0]? = some (q : Int) ∧ T[q]? = some y) : RgC T A c x (.slice A4 x.kids.length c4) w := by
  obtain ⟨b, off, b5, o5, q, c5, A5, rfl, rfl, hb, hb5, hl, hqT, z0, e0, -⟩ := kid0_cells h r4 hk
  obtain ⟨kd, tx, ty, nm, ks⟩ := x
  unfold RgC
  generalize hres : rgP T _ = R
  unfold rgP emB at hres
  simp only at hk26 hres hl e0 ⊢
  subst hk26
  simp only [Int.reduceEq, if_true, if_false, or_self] at hres
  generalize (kid0 T _).kind = kk at *
  generalize ks.length = nk at *
  have HRE := Lib.hid hres
  have hli : (0 : Int) < (nk : Int) := by omega
  have hqi : (q : Int) < (T.length : Int) := by omega
  clear hres h r4 hk
  go_enter Tryz.func23, Tryz.ntmps23
  go_wp2_with fail
  all_goals (
    go_ret
    refine ⟨?_, al _⟩
    rw [← HRE.out]
    first
      | (simp [*]; done)
      | (simp [*]; rfl)
      | trace_state)
set_option maxHeartbeats 4000000 in
theorem right_assign {T : List ND} {A : Option Addr} {c : Nat} {x : ND} {A4 : Option Addr} {c4 : Nat} {w : World} (hk8 : x.kind = 8) (h : (Shp.slice ND.sh).rd w (· < w.heap.size) [.slice A T.length c] T) (r4 : RdM w (· < w.heap.size) 1 A4 x.kids.length (x.kids.map (Value.int .i64))) (hk : ∃ (q : Nat) (y : ND), x.kids[0]? = some (q : Int) ∧ T[q]? = some y) : RgC T A c x (.slice A4 x.kids.length c4) w := by
  obtain ⟨b, off, b5, o5, q, c5, A5, rfl, rfl, hb, hb5, hl, hqT, z0, e0, e1, e2, e3, e4⟩ := kid0_cells h r4 hk
  obtain ⟨kd, tx, ty, nm, ks⟩ := x
  unfold RgC
  generalize hres : rgP T _ = R
  unfold rgP emB at hres
  simp only at hk8 hres hl e0 e1 e2 e3 e4 ⊢
  subst hk8
  simp only [Int.reduceEq, if_true, if_false, or_self] at hres
  generalize hy : (kid0 T _) = y at *
  generalize ks.length = nk at *
  have HRE := Lib.hid hres
  have hli : (0 : Int) < (nk : Int) := by omega
  have hqi : (q : Int) < (T.length : Int) := by omega
  clear hres h r4 hk hy
  go_enter Tryz.func23, Tryz.ntmps23
  go_wp2_with fail
  refine Calls.mono (pplace_any y _ _) ?_
  rintro e w1 ⟨rfl, hb⟩
  have g1 := hb.cell (p := ⟨w.heap.size, 1, none⟩) (by simp)
  have g2 := hb.cell (p := ⟨w.heap.size, 2, none⟩) (by simp)
  have g3 := hb.cell (p := ⟨w.heap.size, 3, none⟩) (by simp)
  simp [go_sem] at g1 g2 g3
  have HB := Lib.hid (show Below w.heap.size w w1 from sq (al _) hb)
  clear hb e0 e1 e2 e3 e4
  generalize placeN y = b at *
  cases b
  all_goals go_wp2_with fail
  all_goals (
    go_ret
    refine ⟨?_, HB.out⟩
    rw [← HRE.out]
    first
      | (simp [*]; done)
      | (simp [*]; rfl)
      | trace_state)
end Go.Proofs.YtkpejdkffkhekaaGreatDoor
