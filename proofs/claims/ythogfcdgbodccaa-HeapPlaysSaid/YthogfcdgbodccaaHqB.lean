/- The document's store: NewStore, Block, Look, Load, Free. Conditions: none. -/
import Derived.Test.YthogfcdgbodccaaHpN
set_option maxRecDepth 100000
namespace Go.Proofs.Ythogfcdgbodccaa
open Go.ChangeShapes Go.WideShapes Go.ChangeAt Go.RowKit
theorem store_new (n : Nat) (hn : n ≤ 4000) (w : World) : Calls Try.prog 6 #[.int .i64 (n : Int)] w fun e w' => ∃ Q M, e = .returned (.tuple #[.pointer (some ⟨Q, 0, none⟩), .int .i64 0]) ∧ SM w' M Q n [] ∧ (∀ k, M k → w.heap.size ≤ k ∧ k < w'.heap.size) ∧ Below w.heap.size w w' := by
  have h0 : ¬ (n : Int) < 0 := by omega
  have h1 : ¬ 4000 < (n : Int) := by omega
  go_enter Try.func6, Try.ntmps6
  go_wp2_with fail
  go_returns
  refine ⟨w.heap.size, rfl, fun k => k = w.heap.size, ⟨.slice none 0 0, [], ⟨rfl, heap_alloc_new w _, World.ownsRow_nil _ _ _ _, ⟨rfl, fun i b d h => (by simp at h), fun i j d d' q h => (by simp at h), fun i d q h => (by simp at h)⟩, fun k h => (by cases h), Nat.zero_le _, fun _ => rfl⟩⟩, fun k hk => by subst hk; simp, al _⟩
theorem store_bad (room : Int) (h : room < 0 ∨ 4000 < room) (w : World) : Calls Try.prog 6 #[.int .i64 room] w fun e w' => e = .returned (.tuple #[.pointer none, .int .i64 14]) ∧ Below w.heap.size w w' := by
  rcases h with h | h
  · go_enter Try.func6, Try.ntmps6
    go_wp2_with fail
    go_returns
    exact ⟨rfl, Below.refl _ _⟩
  · have h0 : ¬ room < 0 := by omega
    go_enter Try.func6, Try.ntmps6
    go_wp2_with fail
    go_returns
    exact ⟨rfl, Below.refl _ _⟩
theorem isB_no {lo : Nat} {bs : List BK} {room : Nat} (_ : FitB lo bs room) {a : Int} (h : ∀ (j : Nat) (b : BK), bs[j]? = some b → (b.at_ : Int) ≠ a) : isB bs a = false := by
  unfold isB
  by_cases h0 : 0 ≤ a
  · have : blkAt bs a.toNat = none := by
      refine List.find?_eq_none.2 fun b hb => ?_
      obtain ⟨j, hj, e⟩ := List.mem_iff_getElem.1 hb
      have := h j b (by rw [List.getElem?_eq_getElem hj, e])
      simp
      omega
    rw [this]
    simp
  · rw [decide_eq_false h0]
    rfl
def BlP (bs : List BK) (bv : Value) (a : Int) (e : Ending) : Prop := (isB bs a = false ∧ e = .returned (.pointer none)) ∨ ∃ (i k : Nat) (b : BK) (R c : Nat), a = (k : Int) ∧ blkAt bs k = some b ∧ bs[i]? = some b ∧ bv = .slice (some ⟨R, 0, none⟩) bs.length c ∧ e = .returned (.pointer (some ⟨R, i * 3, none⟩))
theorem bs_len {lo : Nat} {bs : List BK} {room : Nat} (h : FitB lo bs room) : bs.length ≤ room := by
  have h1 : ∀ l : List BK, l.length ≤ usedB l := fun l => by
    induction l with
    | nil => exact Nat.le_refl _
    | cons x l ih => show l.length + 1 ≤ (x.cells.length + 1) + usedB l; omega
  have := usedB_le h
  have := h1 bs
  omega
set_option maxHeartbeats 4000000 in
theorem refBlock_any {w : World} {M : Nat → Prop} {Q room : Nat} {bs : List BK} {bv : Value} {ds : List Value} (h : SPc w M Q room bs bv ds) (h63 : room ≤ 4000) (a : Int) :
    Calls Try.prog 36 #[.pointer (some ⟨Q, 0, none⟩), .int .i64 a] w fun e w' => BlP bs bv a e ∧ w' = w := by
  have HC := Lib.hid h
  have HL := Lib.hid (bs_len h.fit)
  obtain ⟨d0, d1⟩ := h.boxc
  obtain ⟨A1, n1, e1⟩ := own_form h.row
  subst e1
  clear h
  go_enter Try.func36, Try.ntmps36
  go_wp2_with fail
  go_loopw [13] (fun v wr => ∃ (i : Nat), v = .int .i64 (i : Int) ∧ Hid (i ≤ bs.length) ∧ Hid (∀ (j : Nat) (b : BK), j < i → bs[j]? = some b → (b.at_ : Int) ≠ a) ∧ wr = w) (fun v _ => bs.length - (intOf v).toNat)
  case atStart => exact ⟨0, rfl, Lib.hid (Nat.zero_le _), Lib.hid (fun j b h => by omega), rfl⟩
  case round =>
    obtain ⟨i, rfl, HI, HN, rfl⟩ := hrel
    by_cases hlt : (i : Int) < (bs.length : Int)
    · obtain ⟨b, hb⟩ : ∃ b, bs[i]? = some b := ⟨_, List.getElem?_eq_getElem (by omega)⟩
      obtain ⟨R, c, d, e1, _, hR, c0, _, _⟩ := HC.out.at_ hb
      injection e1 with e1 _ e1'
      subst e1 e1'
      have HB := Lib.hid hb
      clear hb
      by_cases hq : (b.at_ : Int) = a
      · have HQ := Lib.hid hq
        have hq2 : ((b.at_ : Int) == a) = true := by simpa using hq
        clear hq
        go_wp2_with fail
        go_ret
        refine ⟨.inr ⟨i, b.at_, b, R, n1, HQ.out.symm, blkAt_of HC.out.fit (List.mem_of_getElem? HB.out), HB.out, rfl, rfl⟩, rfl⟩
      · have hq2 : ((b.at_ : Int) == a) = false := by simpa using hq
        have HN2 := Lib.hid (show ∀ (j : Nat) (c : BK), j < i + 1 → bs[j]? = some c → (c.at_ : Int) ≠ a from fun j c hj hc => by
          by_cases h : j < i
          · exact HN.out j c h hc
          · obtain rfl : j = i := by omega
            rw [HB.out] at hc
            injection hc with hc
            rw [← hc]
            exact hq)
        clear hq
        have hlb := HL.out
        go_wp2_with fail
        refine ⟨⟨i + 1, by simp, Lib.hid (by omega), HN2, trivial⟩, by simp [intOf]; omega⟩
    · go_wp2_with fail
      go_ret
      refine ⟨.inl ⟨isB_no HC.out.fit fun j b hb => HN.out j b (by have := (List.getElem?_eq_some_iff.1 hb).1; omega) hb, rfl⟩, rfl⟩
theorem SPc.lt {w : World} {M : Nat → Prop} {Q room : Nat} {bs : List BK} {bv : Value} {ds : List Value} (h : SPc w M Q room bs bv ds) : Q < w.heap.size := (Array.getElem?_eq_some_iff.1 h.box).1
set_option maxHeartbeats 4000000 in
theorem refLook_any {w : World} {M : Nat → Prop} {Q room : Nat} {bs : List BK} {bv : Value} {ds : List Value} (h : SPc w M Q room bs bv ds) (h63 : room ≤ 4000) (a : Int) :
    Calls Try.prog 25 #[.pointer (some ⟨Q, 0, none⟩), .int .i64 a] w fun e w' => e = .returned (lookV bs a) ∧ Below w.heap.size w w' := by
  have HC := Lib.hid h
  have HB := Lib.hid (refBlock_any h h63 a)
  clear h
  go_enter Try.func25, Try.ntmps25
  go_wp2_with fail
  refine Calls.mono HB.out ?_
  rintro e w1 ⟨⟨hA, rfl⟩ | ⟨i, k, b, R, c, rfl, hk, hb, rfl, rfl⟩, rfl⟩
  · have HV := Lib.hid (show lookV bs a = .tuple #[.int .i64 0, .int .i64 0, .int .i64 16] by unfold lookV; rw [hA]; rfl)
    go_wp2_with fail
    refine bodyPost_ret (v := .tuple #[.int .i64 0, .int .i64 0, .int .i64 16]) (by simp [results, Try.results25, go_sem]) rfl ?_
    exact ⟨by rw [HV.out], Below.refl _ _⟩
  · have hA : isB bs (k : Int) = true := by unfold isB; rw [Int.toNat_natCast, hk]; simp
    have HV := Lib.hid (show lookV bs (k : Int) = .tuple #[.int .i64 b.shape, .int .i64 (b.cells.length : Int), .int .i64 0] by unfold lookV; rw [hA, Int.toNat_natCast, hk]; rfl)
    obtain ⟨R', c', d, e1, hd, hR, c0, c1, c2⟩ := HC.out.at_ hb
    injection e1 with e1 _ _
    injection e1 with e1
    injection e1 with e1
    subst e1
    obtain ⟨D, cd, rfl⟩ := own_form (HC.out.bk.cr i b d hb hd)
    clear hA hk hb hd
    go_wp2_with fail
    go_quiet (fail)
    go_wp2_with fail
    refine bodyPost_ret (v := .tuple #[.int .i64 b.shape, .int .i64 (b.cells.length : Int), .int .i64 0]) (by simp [results, Try.results25, go_sem]) rfl ?_
    exact ⟨by rw [HV.out], by first | exact Below.refl _ _ | exact dr (Below.refl _ _) _⟩
set_option maxHeartbeats 4000000 in
theorem refLoad_any {w : World} {M : Nat → Prop} {Q room : Nat} {bs : List BK} {bv : Value} {ds : List Value} (h : SPc w M Q room bs bv ds) (h63 : room ≤ 4000) (a i : Int) :
    Calls Try.prog 23 #[.pointer (some ⟨Q, 0, none⟩), .int .i64 a, .int .i64 i] w fun e w' => e = .returned (loadV bs a i) ∧ Below w.heap.size w w' := by
  have HC := Lib.hid (h.below (al (.cells #[.int .i64 0, .int .i64 0] 36)))
  have HB := Lib.hid (refBlock_any HC.out h63 a)
  have HB0 := Lib.hid (al (w := w) (.cells #[.int .i64 0, .int .i64 0] 36))
  obtain ⟨⟨r0, r1⟩, s0, s1⟩ := loc2 (w := w) (Below.refl _ (w.alloc (.cells #[.int .i64 0, .int .i64 0] 36)))
  clear h
  go_enter Try.func23, Try.ntmps23
  go_wp2_with fail
  refine Calls.mono HB.out ?_
  generalize w.alloc (.cells #[.int .i64 0, .int .i64 0] 36) = w0 at *
  rintro e w1 ⟨⟨hA, rfl⟩ | ⟨q, k, b, R, c, rfl, hk, hb, rfl, rfl⟩, rfl⟩
  · have HV := Lib.hid (show loadV bs a i = .tuple #[.agg #[.int .i64 0, .int .i64 0], .int .i64 16] by unfold loadV; rw [hA]; rfl)
    go_wp2_with fail
    refine bodyPost_ret (v := .tuple #[.agg #[.int .i64 0, .int .i64 0], .int .i64 16]) (by simp [results, Try.results23, go_sem, r0, r1]) rfl ?_
    exact ⟨by rw [HV.out], below_loc2 HB0.out _ _⟩
  · have hA : isB bs (k : Int) = true := by unfold isB; rw [Int.toNat_natCast, hk]; simp
    obtain ⟨R', c', d, e1, hd, hR, c0, c1, c2⟩ := HC.out.at_ hb
    injection e1 with e1 _ _
    injection e1 with e1
    injection e1 with e1
    subst e1
    have hcr := HC.out.bk.cr q b d hb hd
    obtain ⟨D, cd, rfl⟩ := own_form hcr
    by_cases hi : 0 ≤ i ∧ i < (b.cells.length : Int)
    · obtain ⟨j, rfl⟩ : ∃ j : Nat, i = (j : Int) := ⟨i.toNat, by omega⟩
      obtain ⟨x, hx⟩ : ∃ x, b.cells[j]? = some x := ⟨_, List.getElem?_eq_getElem (by omega)⟩
      have HV := Lib.hid (show loadV bs (k : Int) (j : Int) = .tuple #[.agg #[.int .i64 x.1, .int .i64 x.2], .int .i64 0] by unfold loadV; rw [hA, Int.toNat_natCast, hk]; simp only [if_true, if_pos hi, Int.toNat_natCast, hx])
      obtain ⟨G, c9, e1, _⟩ := hcr.form (by omega)
      injection e1 with e1 _ e2
      subst e1 e2
      have x0 := (own_cellC hcr (k := j * 2 + 0) (u := .int .i64 x.1) (by rw [ceL_get hx (by omega)]; rfl)).1
      have x1 := (own_cellC hcr (k := j * 2 + 1) (u := .int .i64 x.2) (by rw [ceL_get hx (by omega)]; rfl)).1
      rw [Nat.add_zero] at x0
      have hj1 : ¬ (j : Int) < 0 := by omega
      have hj2 : (j : Int) < (b.cells.length : Int) := hi.2
      have hj3 : ¬ (b.cells.length : Int) ≤ (j : Int) := by omega
      clear hA hk hb hd hcr hx hi
      generalize b.cells.length = n at *
      go_wp2_with fail
      refine bodyPost_ret (v := .tuple #[.agg #[.int .i64 x.1, .int .i64 x.2], .int .i64 0]) (by simp [results, Try.results23, go_sem, r0, r1]) rfl ?_
      exact ⟨by rw [HV.out], below_loc2 HB0.out _ _⟩
    · have HV := Lib.hid (show loadV bs (k : Int) i = .tuple #[.agg #[.int .i64 0, .int .i64 0], .int .i64 14] by unfold loadV; rw [hA, Int.toNat_natCast, hk]; simp only [if_true, if_neg hi])
      have hi2 : i < 0 ∨ ¬ i < 0 ∧ (b.cells.length : Int) ≤ i := by omega
      clear hA hk hb hd hcr hi
      generalize b.cells.length = n at *
      rcases hi2 with hi | ⟨hi, hi3⟩
      · go_wp2_with fail
        refine bodyPost_ret (v := .tuple #[.agg #[.int .i64 0, .int .i64 0], .int .i64 14]) (by simp [results, Try.results23, go_sem, r0, r1]) rfl ?_
        exact ⟨by rw [HV.out], below_loc2 HB0.out _ _⟩
      · go_wp2_with fail
        refine bodyPost_ret (v := .tuple #[.agg #[.int .i64 0, .int .i64 0], .int .i64 14]) (by simp [results, Try.results23, go_sem, r0, r1]) rfl ?_
        exact ⟨by rw [HV.out], below_loc2 HB0.out _ _⟩
end Go.Proofs.Ythogfcdgbodccaa
