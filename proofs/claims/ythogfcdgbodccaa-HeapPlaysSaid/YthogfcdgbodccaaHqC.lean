/- The document's store: Put, Free. Conditions: none. -/
import Derived.Test.YthogfcdgbodccaaHqB
set_option maxRecDepth 100000
namespace Go.Proofs.Ythogfcdgbodccaa
open Go.ChangeShapes Go.WideShapes Go.ChangeAt Go.RowKit
theorem blL_put {k j : Nat} {c : Int × Int} : ∀ (bs : List BK) (ds : List Value), blL (putB k j c bs) ds = blL bs ds
  | [], _ => rfl
  | b :: bs, [] => by simp [blL, putB]
  | b :: bs, d :: ds => by
    have ih := blL_put (k := k) (j := j) (c := c) bs ds
    unfold blL at ih ⊢
    simp only [putB, List.map_cons, List.zipWith_cons_cons, List.flatten_cons]
    have e : blC (if b.at_ = k then { b with cells := b.cells.set j c } else b) d = blC b d := by split <;> rfl
    rw [e]
    exact congrArg _ ih
theorem SPc.put {w : World} {M : Nat → Prop} {Q room : Nat} {bs : List BK} {bv : Value} {ds : List Value} {i j k G cd : Nat} {b : BK} {c : Int × Int} (h : SPc w M Q room bs bv ds) (hb : bs[i]? = some b) (hd : ds[i]? = some (.slice (some ⟨G, 0, none⟩) b.cells.length cd)) (hj : j < b.cells.length) (hk : blkAt bs k = some b) :
    SPc ((w.setCell ⟨G, j * 2, none⟩ (.int .i64 c.1)).setCell ⟨G, j * 2 + 1, none⟩ (.int .i64 c.2)) M Q room (putB k j c bs) bv ds := by
  have hcr := h.bk.cr i b _ hb hd
  obtain ⟨_, hke⟩ := blkAt_mem hk
  have hQG : Q ≠ G := fun e => own_neP hcr h.box (by decide) (by rw [e]; rfl)
  have hkk : ∀ z, z ≠ G → ((w.setCell ⟨G, j * 2, none⟩ (.int .i64 c.1)).setCell ⟨G, j * 2 + 1, none⟩ (.int .i64 c.2)).heap[z]? = w.heap[z]? := fun z hz => (Below.heap_setCell _ _ _ _ hz).trans (Below.heap_setCell _ _ _ _ hz)
  have hl : (putB k j c bs).length = bs.length := by simp [putB]
  refine ⟨h.hQ, (hkk Q hQG).trans h.box, ?_, ⟨by rw [hl]; exact h.bk.len, fun i' b' d' hb' hd' => ?_, h.bk.dis, h.bk.md⟩, h.mb, (putB_fit h.fit).1, by rw [hl]; exact h.nz⟩
  · rw [blL_put, hl]
    exact own_stay h.row fun q hq => hkk q fun e => own_ne h.row hcr (by decide) q hq (by rw [e]; rfl)
  · unfold putB at hb'
    rw [List.getElem?_map] at hb'
    cases h0 : bs[i']? with
    | none => rw [h0] at hb'; cases hb'
    | some b0 =>
      rw [h0] at hb'
      simp only [Option.map_some, Option.some.injEq] at hb'
      by_cases he : b0.at_ = k
      · have e1 := blkAt_of h.fit (List.mem_of_getElem? h0)
        rw [he, hk] at e1
        injection e1 with e1
        subst e1
        have hii : i = i' := fit_inj h.fit hb h0
        subst hii
        rw [if_pos he] at hb'
        subst hb'
        rw [hd] at hd'
        injection hd' with hd'
        subst hd'
        have := own_setC (own_setC hcr (.int .i64 c.1) (k := j * 2)) (.int .i64 c.2) (k := j * 2 + 1)
        rw [ceL_set _ _ _ hj] at this
        simpa using this
      · rw [if_neg he] at hb'
        subst hb'
        refine own_stay (h.bk.cr i' b0 d' h0 hd') fun q hq => hkk q fun e => ?_
        have := h.bk.dis i i' _ _ G hd hd' rfl (by rw [← e]; exact hq)
        subst this
        rw [hb] at h0
        injection h0 with h0
        exact he (by rw [← h0]; exact hke)
theorem loadV_err {bs : List BK} {a i : Int} (h : stE bs a i 0 ≠ 0) : loadV bs a i = .tuple #[.agg #[.int .i64 0, .int .i64 0], .int .i64 (stE bs a i 0)] := by
  unfold stE at h ⊢
  unfold loadV
  cases hA : isB bs a with
  | false => simp
  | true =>
    obtain ⟨k, b, rfl, hb⟩ := isB_blk hA
    rw [hA, lenB_at hb] at h
    rw [lenB_at hb, Int.toNat_natCast, hb]
    simp only [Bool.true_eq_false, if_false, if_true] at h ⊢
    by_cases hi : 0 ≤ i ∧ i < (b.cells.length : Int)
    · rw [if_pos hi, if_pos (by omega)] at h
      exact absurd rfl h
    · rw [if_neg hi, if_neg hi]
theorem loadV_ok {bs : List BK} {k j : Nat} {b : BK} {x : Int × Int} (hb : blkAt bs k = some b) (hx : b.cells[j]? = some x) : loadV bs (k : Int) (j : Int) = .tuple #[.agg #[.int .i64 x.1, .int .i64 x.2], .int .i64 0] := by
  have hA : isB bs (k : Int) = true := by unfold isB; rw [Int.toNat_natCast, hb]; simp
  have hj := (List.getElem?_eq_some_iff.1 hx).1
  unfold loadV
  rw [hA, Int.toNat_natCast, hb]
  simp only [if_true, Int.toNat_natCast, hx]
  rw [if_pos ⟨by omega, by omega⟩]
theorem refBlock_at {w : World} {M : Nat → Prop} {Q room : Nat} {bs : List BK} {ds : List Value} {R n1 i k : Nat} {b : BK} (h : SPc w M Q room bs (.slice (some ⟨R, 0, none⟩) bs.length n1) ds) (h63 : room ≤ 4000) (hk : blkAt bs k = some b) (hb : bs[i]? = some b) :
    Calls Try.prog 36 #[.pointer (some ⟨Q, 0, none⟩), .int .i64 (k : Int)] w fun e w' => e = .returned (.pointer (some ⟨R, i * 3, none⟩)) ∧ w' = w := by
  refine Calls.mono (refBlock_any h h63 (k : Int)) ?_
  rintro e w' ⟨⟨hA, _⟩ | ⟨i', k', b', R', c', e1, e2, e3, e4, rfl⟩, rfl⟩
  · unfold isB at hA
    rw [Int.toNat_natCast, hk] at hA
    simp at hA
  · have hkk : k' = k := by omega
    subst hkk
    rw [hk] at e2
    injection e2 with e2
    subst e2
    have := fit_inj h.fit hb e3
    subst this
    injection e4 with e4 _ _
    injection e4 with e4
    injection e4 with e4
    subst e4
    exact ⟨rfl, rfl⟩
set_option maxHeartbeats 8000000 in
theorem refPut_any {w : World} {M : Nat → Prop} {Q room : Nat} {bs : List BK} (h : SM w M Q room bs) (a i : Int) (c : Int × Int) (h63 : room ≤ 4000) :
    Calls Try.prog 21 #[.pointer (some ⟨Q, 0, none⟩), .int .i64 a, .int .i64 i, .agg #[.int .i64 c.1, .int .i64 c.2]] w fun e w' => e = .returned (.int .i64 (stE bs a i c.1)) ∧ SM w' M Q room (stB bs a i c) ∧ Ke M w w' := by
  obtain ⟨bv, ds, h⟩ := h
  obtain ⟨t, n⟩ := c
  have HC := Lib.hid h
  have HC0 := Lib.hid (h.below (al (.cells #[.int .i64 t, .int .i64 n] 36)))
  have HB := Lib.hid (show ∀ w' : World, Below w.heap.size w w' → SM w' M Q room bs ∧ Ke M w w' from fun w' hb => ⟨⟨bv, ds, h.below hb⟩, Ke.of hb⟩)
  have HL := Lib.hid (refLoad_any HC0.out h63 a i)
  clear h
  by_cases h0 : stE bs a i 0 = 0
  · have hte := stE_tag (t := t) h0
    obtain ⟨k, j, b, x, rfl, rfl, hb, hx⟩ := stE_in h0
    rw [loadV_ok hb hx] at HL
    by_cases ht : 0 ≤ t ∧ t ≤ 7
    · rw [if_pos ht] at hte
      have HT := Lib.hid hte
      have HV := Lib.hid (show stB bs (k : Int) (j : Int) (t, n) = putB k j (t, n) bs by unfold stB; rw [if_pos hte, Int.toNat_natCast, Int.toNat_natCast])
      have HX := Lib.hid hx
      have HBK := Lib.hid hb
      have ht0 : ¬ t < 0 := by omega
      have ht7 : ¬ 7 < t := by omega
      clear hte hx hb h0 ht
      go_enter Try.func21, Try.ntmps21
      go_wp2_with fail
      refine Calls.mono HL.out ?_
      rintro e w1 ⟨rfl, hb1⟩
      obtain ⟨⟨c0, c1⟩, f0, f1⟩ := loc2 hb1
      have HB1 := Lib.hid (sq (al (w := w) (.cells #[.int .i64 t, .int .i64 n] 36)) hb1)
      have HB2 := Lib.hid (sq HB1.out (al (.cells #[.int .i64 x.1, .int .i64 x.2] 36)))
      have HC2 := Lib.hid (HC.out.below HB2.out)
      have hwl : w.heap.size < w1.heap.size := by have := hb1.size; simp at this; omega
      go_wp2_with fail
      have g0 : (w1.alloc (.cells #[.int .i64 x.1, .int .i64 x.2] 36)).cell? ⟨w.heap.size, 0, none⟩ = some (.int .i64 t) := (World.cell?_of_block (Lib.alloc_old _ _ _ hwl)).trans c0
      have g1 : (w1.alloc (.cells #[.int .i64 x.1, .int .i64 x.2] 36)).cell? ⟨w.heap.size, 1, none⟩ = some (.int .i64 n) := (World.cell?_of_block (Lib.alloc_old _ _ _ hwl)).trans c1
      clear c0 c1 f0 f1 hwl hb1
      generalize w1.alloc (.cells #[.int .i64 x.1, .int .i64 x.2] 36) = w2 at *
      obtain ⟨i, hi⟩ : ∃ i, bs[i]? = some b := by
        obtain ⟨i, hi, e⟩ := List.mem_iff_getElem.1 (blkAt_mem HBK.out).1
        exact ⟨i, by rw [List.getElem?_eq_getElem hi, e]⟩
      obtain ⟨R, nR, d, rfl, hd, hR, q0, q1, q2⟩ := HC2.out.at_ hi
      have hcr := HC2.out.bk.cr i b d hi hd
      have hjl := (List.getElem?_eq_some_iff.1 HX.out).1
      obtain ⟨G, cd, rfl, _⟩ := hcr.form (by omega)
      have HBL := Lib.hid (refBlock_at (HC2.out.below (Below.refl _ _).drew) h63 HBK.out hi)
      have x0 := own_cellC hcr (k := j * 2 + 0) (u := .int .i64 x.1) (by rw [ceL_get HX.out (by omega)]; rfl)
      have x1 := own_cellC hcr (k := j * 2 + 1) (u := .int .i64 x.2) (by rw [ceL_get HX.out (by omega)]; rfl)
      rw [Nat.add_zero] at x0
      obtain ⟨x0, z0, _, hG⟩ := x0
      obtain ⟨x1, z1, _, _⟩ := x1
      have hGR : G ≠ R := fun e => own_ne hcr HC2.out.row (by decide) G rfl (by rw [e]; rfl)
      have hRG : R ≠ G := fun e => hGR e.symm
      have hGlt : G < w.heap.size := ((HC.out.bk.cr i b _ hi hd).lt G rfl).2
      have hGL : G ≠ w.heap.size := by omega
      have hLG : w.heap.size ≠ G := by omega
      have hMG : M G := HC2.out.bk.md i _ G hd rfl
      have hj1 : (j : Int) < (b.cells.length : Int) := by omega
      have HP := Lib.hid ((HC2.out.put (c := (t, n)) hi hd hjl HBK.out).below (Below.refl _ _).drew)
      have HK := Lib.hid ((((Ke.of (M := M) HB2.out).set (g := G) (j * 2) (.int .i64 t) (.inl hMG)).set (g := G) (j * 2 + 1) (.int .i64 n) (.inl hMG)).drew)
      clear hcr hi hd hjl hG hGlt
      generalize b.cells.length = bl at *
      go_region_held3 (fun w' => w'.cell? ⟨R, i * 3 + 2, none⟩ = some (.slice (some ⟨G, 0, none⟩) bl cd) ∧ w'.cell? ⟨w.heap.size, 0, none⟩ = some (.int .i64 t) ∧ w'.cell? ⟨w.heap.size, 1, none⟩ = some (.int .i64 n)) (go_keep) ((go_at_call 36; refine Calls.mono HBL.out ?_; rintro e w9 ⟨rfl, rfl⟩))
      generalize ((w2.setCell { block := G, off := j * 2 } (Value.int IntKind.i64 t)).setCell { block := G, off := j * 2 + 1 } (Value.int IntKind.i64 n)).drew = w5 at *
      go_wp2_with fail
      go_ret
      refine ⟨by rw [HT.out]; rfl, ?_, HK.out⟩
      rw [HV.out]
      exact ⟨_, _, HP.out⟩
    · rw [if_neg ht] at hte
      have HT := Lib.hid hte
      have HV := Lib.hid (show stB bs (k : Int) (j : Int) (t, n) = bs from stB_no (by simp only; rw [hte]; decide))
      have hlt : t < 0 ∨ 7 < t := by omega
      clear hx hb hte ht h0
      go_enter Try.func21, Try.ntmps21
      go_wp2_with fail
      refine Calls.mono HL.out ?_
      rintro e w1 ⟨rfl, hb1⟩
      obtain ⟨⟨c0, c1⟩, f0, f1⟩ := loc2 hb1
      have HB2 := Lib.hid (sq (sq (al (w := w) (.cells #[.int .i64 t, .int .i64 n] 36)) hb1) (al (.cells #[.int .i64 x.1, .int .i64 x.2] 36)))
      have hwl : w.heap.size < w1.heap.size := by have := hb1.size; simp at this; omega
      rcases hlt with ht | ht
      · go_wp2_with fail
        go_ret
        exact ⟨by rw [HT.out]; rfl, by simp only [HV.out]; exact HB.out _ HB2.out⟩
      · have ht0 : ¬ t < 0 := by omega
        go_wp2_with fail
        go_ret
        exact ⟨by rw [HT.out]; rfl, by simp only [HV.out]; exact HB.out _ HB2.out⟩
  · have hte := stE_other (t := t) h0
    rw [loadV_err h0] at HL
    have HV := Lib.hid (show stB bs a i (t, n) = bs from stB_no (by simp only; rw [hte]; exact h0))
    have HT := Lib.hid hte
    generalize stE bs a i 0 = ne at *
    clear hte
    have hne : (ne != 0) = true := by simpa using h0
    go_enter Try.func21, Try.ntmps21
    go_wp2_with fail
    refine Calls.mono HL.out ?_
    rintro e w1 ⟨rfl, hb1⟩
    have HB2 := Lib.hid (sq (sq (al (w := w) (.cells #[.int .i64 t, .int .i64 n] 36)) hb1) (al (.cells #[.int .i64 0, .int .i64 0] 36)))
    go_wp2_with fail
    go_ret
    exact ⟨by rw [HT.out]; rfl, by simp only [HV.out]; exact HB.out _ HB2.out⟩
theorem usedB_take (bs : List BK) (i : Nat) {b : BK} (h : bs[i]? = some b) : usedB (bs.take (i + 1)) = usedB (bs.take i) + (b.cells.length + 1) := by
  rw [take_snoc h, usedB_app]
  rfl
theorem usedB_le2 (bs : List BK) (i : Nat) : usedB (bs.take i) ≤ usedB bs := by
  have := usedB_app (bs.take i) (bs.drop i)
  rw [List.take_append_drop] at this
  omega
set_option maxHeartbeats 4000000 in
theorem refFree_any {w : World} {M : Nat → Prop} {Q room : Nat} {bs : List BK} {bv : Value} {ds : List Value} (h : SPc w M Q room bs bv ds) (h63 : room ≤ 4000) :
    Calls Try.prog 11 #[.pointer (some ⟨Q, 0, none⟩)] w fun e w' => e = .returned (.int .i64 ((room : Int) - (usedB bs : Int))) ∧ Below w.heap.size w w' := by
  have HC := Lib.hid h
  have HL := Lib.hid (bs_len h.fit)
  have HU := Lib.hid (usedB_le h.fit)
  obtain ⟨d0, d1⟩ := h.boxc
  obtain ⟨A1, n1, e1⟩ := own_form h.row
  subst e1
  clear h
  go_enter Try.func11, Try.ntmps11
  go_wp2_with fail
  go_loopw [3, 17] (fun s v wr => ∃ (i : Nat), s = .int .i64 ((room : Int) - (usedB (bs.take i) : Int)) ∧ v = .int .i64 (i : Int) ∧ Hid (i ≤ bs.length) ∧ Hid (Below w.heap.size w wr)) (fun _ v _ => bs.length - (intOf v).toNat)
  case atStart => exact ⟨0, by simp [usedB], rfl, Lib.hid (Nat.zero_le _), Lib.hid (Below.refl _ _)⟩
  case round =>
    obtain ⟨i, rfl, rfl, HI, HB⟩ := hrel
    by_cases hlt : (i : Int) < (bs.length : Int)
    · obtain ⟨b, hb⟩ : ∃ b, bs[i]? = some b := ⟨_, List.getElem?_eq_getElem (by omega)⟩
      have HCW := Lib.hid (HC.out.below HB.out)
      obtain ⟨R, c, d, e1, hd, hR, c0, c1, c2⟩ := HCW.out.at_ hb
      injection e1 with e1 _ e1'
      subst e1 e1'
      obtain ⟨D, cd, rfl⟩ := own_form (HCW.out.bk.cr i b d hb hd)
      have hu := usedB_take bs i hb
      have hu2 := usedB_le2 bs (i + 1)
      have hu3 := HU.out
      have hlb := HL.out
      have HS := Lib.hid hu
      rw [hu] at hu2
      have hwl : IntKind.i64.wrap (1 + (b.cells.length : Int)) = 1 + (b.cells.length : Int) := IntWalk.i64_in _ (by omega)
      have hw2 : IntKind.i64.wrap ((room : Int) - (usedB (bs.take i) : Int) - (1 + (b.cells.length : Int))) = (room : Int) - (usedB (bs.take i) : Int) - (1 + (b.cells.length : Int)) := IntWalk.i64_in _ (by omega)
      have HB2 := Lib.hid (HB.out.trans ((al (w := wr) (.cells #[.int .i64 (b.at_ : Int), .int .i64 b.shape, .slice D b.cells.length cd] 64)).mono HB.out.size))
      clear hb hd hu hu2 hu3
      generalize usedB (bs.take i) = uu at *
      generalize b.cells.length = bl at *
      go_wp2_with fail
      refine ⟨⟨i + 1, by rw [HS.out]; congr 1; omega, by simp, Lib.hid (by omega), HB2⟩, by simp [intOf]; omega⟩
    · go_wp2_with fail
      go_ret
      refine ⟨?_, HB.out⟩
      rw [List.take_of_length_le (by omega)]
      rfl
end Go.Proofs.Ythogfcdgbodccaa
